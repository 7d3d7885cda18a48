/- Whole arrays of counts: laid, loaded, stored, compared, handed back. -/
import Derived.Test.YtleaimlaljlokaaLzSymF
import Derived.Laws.Tables
import Derived.Laws.Rows
import Derived.Deep.WholeRow
set_option linter.unusedVariables false
namespace Go.Proofs.Ytleaimlaljlokaa
open Go.RowKit Go.ChangeShapes Go.WideShapes Go.ChangeAt Pal

abbrev c32 (x : Nat) : Value := .int .u32 x
abbrev row32 (l : List Nat) : Array Value := (l.map c32).toArray

theorem size_row32 (l : List Nat) : (row32 l).size = l.length := by simp [row32]
theorem oneCell_row32 (l : List Nat) : (row32 l).all (·.oneCell') = true := by
  rw [← Array.all_toList, List.all_eq_true]
  intro u hu
  simp [row32] at hu
  obtain ⟨a, _, rfl⟩ := hu
  rfl

theorem exec_load_row {P : Program} {o : Oper} {a : Act} {w : World} (ty : TypeId) (x : Operand) (ho : o.op = .load ty x)
    (g : Nat) (hx : a.eval x = .pointer (some ⟨g, 0, none⟩)) (t : TypeId) (cs : Array Value) (fr : Nat × Nat) (d : TypeDesc) (hg : w.heap[g]? = some (.cells cs t fr))
    (hu : P.underlying ty = some d) (hd : (match d with | .struct _ | .array _ _ => true | _ => false) = true) (hi : (P.info? ty).map (·.size) = some cs.size) :
    (execOp a.eval o).run P w = .ok (.value (.agg cs)) w := by
  unfold execOp
  simp only [ho, hx, Instr.loadAt, Instr.sureAddr, Sem.run_bind, Sem.run_pure, Result.andThen_ok, run_loadVar_row w g t ty cs fr d hg hu hd hi]

theorem mapM_some {α β : Type} {f : α → Option β} : ∀ l : List α, (∀ x ∈ l, ∃ y, f x = some y) → ∃ ys, l.mapM f = some ys
  | [], _ => ⟨[], rfl⟩
  | x :: l, h => by
    obtain ⟨y, hy⟩ := h x (by simp)
    obtain ⟨ys, hys⟩ := mapM_some l fun u hu => h u (by simp [hu])
    exact ⟨y :: ys, by simp [List.mapM_cons, hy, hys]⟩

theorem key_row32 {P : Program} {k e n : Nat} (hu : P.underlying k = some (.array n e)) (he : P.underlying e = some (.int .u32)) (hk : P.cellsOf k = n) (hc : P.cellsOf e = 1) (hkt : P.keyType k = true) (hs : ∃ m, P.types.size = m + 1)
    (l : List Nat) (hl : l.length = n) (hb : ∀ x ∈ l, x < 4294967296) : ∃ t, keyOf P k (.agg (row32 l)) = some t := by
  obtain ⟨m, hm⟩ := hs
  have hf : (Value.agg (row32 l)).formed P k = true := by simp [Value.formed, hu, hk, hl]
  refine Option.isSome_iff_exists.1 ?_
  unfold keyOf
  simp only [hu, hkt, hf, Bool.and_true, if_true, hm]
  unfold Program.keyLits
  simp only [hu, hk, hc, Value.cells]
  rw [if_pos (by simp [hl])]
  have := mapM_some (f := fun i => P.keyLits (m + 1) e (((row32 l).toList.drop (i * 1)).take 1)) (List.range n) (fun i hi => by
    have hi' : i < l.length := by rw [hl]; simpa using hi
    refine ⟨[.int .u32 (l[i] : Nat)], ?_⟩
    have hd : ((row32 l).toList.drop (i * 1)).take 1 = [c32 l[i]] := by
      rw [Nat.mul_one]
      simp only [row32]
      rw [List.drop_eq_getElem_cons (by simpa using hi')]
      simp
    rw [hd]
    unfold Program.keyLits
    simp only [he]
    rw [if_pos]
    refine ⟨trivial, ?_⟩
    have := hb _ (List.getElem_mem hi')
    simp [Lit.wf, IntKind.min, IntKind.max, IntKind.bits, IntKind.signed]
    omega)
  obtain ⟨ys, hys⟩ := this
  rw [hys]
  rfl

theorem eql_row32 {P : Program} {k e n : Nat} (hu : P.underlying k = some (.array n e)) (he : P.underlying e = some (.int .u32)) (hk : P.cellsOf k = n) (hc : P.cellsOf e = 1) (hkt : P.keyType k = true) (hka : P.keyTypeAt 2 k = true) (hs : ∃ m, P.types.size = m + 1)
    (l : List Nat) (hl : l.length = n) (hb : ∀ x ∈ l, x < 4294967296) (w : World) : (binOp .eql k (.agg (row32 l)) (.agg (row32 l))).run P w = .ok (.bool true) w := by
  obtain ⟨t, ht⟩ := key_row32 hu he hk hc hkt hs l hl hb
  obtain ⟨r, hr, hiff⟩ := run_equal_deep w (m := 2) (by omega) hka (by rw [hu]) ht ht
  obtain rfl : r = true := hiff.2 rfl
  rw [run_eql_struct]
  have : (Op.equalIn 10000 k (.agg (row32 l)) (.agg (row32 l))).run P w = .ok true w := hr
  rw [this]
  rfl

theorem under52 : Try.prog.underlying 52 = some (.array 286 51) := by kernel_rfl
theorem under53 : Try.prog.underlying 53 = some (.array 30 51) := by kernel_rfl
theorem info52 : (Try.prog.info? 52).map (fun i => (i.zero, i.size)) = some (some (.agg (row32 (List.replicate 286 0))), 286) := by kernel_rfl
theorem info53 : (Try.prog.info? 53).map (fun i => (i.zero, i.size)) = some (some (.agg (row32 (List.replicate 30 0))), 30) := by kernel_rfl

theorem eql52 (l : List Nat) (hl : l.length = 286) (hb : ∀ x ∈ l, x < 4294967296) (w : World) : (binOp .eql 52 (.agg (row32 l)) (.agg (row32 l))).run Try.prog w = .ok (.bool true) w :=
  eql_row32 under52 Try.underlying51 (by kernel_rfl) (by kernel_rfl) (by kernel_rfl) (by kernel_rfl) typesSz l hl hb w
theorem eql53 (l : List Nat) (hl : l.length = 30) (hb : ∀ x ∈ l, x < 4294967296) (w : World) : (binOp .eql 53 (.agg (row32 l)) (.agg (row32 l))).run Try.prog w = .ok (.bool true) w :=
  eql_row32 under53 Try.underlying51 (by kernel_rfl) (by kernel_rfl) (by kernel_rfl) (by kernel_rfl) typesSz l hl hb w

theorem ret_cct {P : Program} {fn : Func} {p q u : Tmp} {ty ty2 : TypeId} (h : fn.results = #[.cell p ty, .cell q ty2, .tmp u]) (tmps : Array Value) (w : World) (g g2 : Nat) (t t2 : TypeId) (cs cs2 : Array Value) (fr fr2 : Nat × Nat) (d d2 : TypeDesc)
    (hp : tmps.getD p undef = .pointer (some ⟨g, 0, none⟩)) (hg : w.heap[g]? = some (.cells cs t fr)) (hu : P.underlying ty = some d) (hd : (match d with | .struct _ | .array _ _ => true | _ => false) = true) (hi : (P.info? ty).map (·.size) = some cs.size)
    (hq : tmps.getD q undef = .pointer (some ⟨g2, 0, none⟩)) (hg2 : w.heap[g2]? = some (.cells cs2 t2 fr2)) (hu2 : P.underlying ty2 = some d2) (hd2 : (match d2 with | .struct _ | .array _ _ => true | _ => false) = true) (hi2 : (P.info? ty2).map (·.size) = some cs2.size)
    {r : Value} (hr : tmps.getD u undef = r) : (results fn tmps).run P w = .ok (.tuple #[.agg cs, .agg cs2, r]) w := by
  have hp' : tmps[p]?.getD undef = .pointer (some ⟨g, 0, none⟩) := by simpa using hp
  have hq' : tmps[q]?.getD undef = .pointer (some ⟨g2, 0, none⟩) := by simpa using hq
  have hr' : tmps[u]?.getD undef = r := by simpa using hr
  simp [results, h, hp', hq', hr', asAddr, run_loadVar_row w g t ty cs fr d hg hu hd hi, run_loadVar_row w g2 t2 ty2 cs2 fr2 d2 hg2 hu2 hd2 hi2]
theorem ret_cc {P : Program} {fn : Func} {p q : Tmp} {ty ty2 : TypeId} (h : fn.results = #[.cell p ty, .cell q ty2]) (tmps : Array Value) (w : World) (g g2 : Nat) (t t2 : TypeId) (cs cs2 : Array Value) (fr fr2 : Nat × Nat) (d d2 : TypeDesc)
    (hp : tmps.getD p undef = .pointer (some ⟨g, 0, none⟩)) (hg : w.heap[g]? = some (.cells cs t fr)) (hu : P.underlying ty = some d) (hd : (match d with | .struct _ | .array _ _ => true | _ => false) = true) (hi : (P.info? ty).map (·.size) = some cs.size)
    (hq : tmps.getD q undef = .pointer (some ⟨g2, 0, none⟩)) (hg2 : w.heap[g2]? = some (.cells cs2 t2 fr2)) (hu2 : P.underlying ty2 = some d2) (hd2 : (match d2 with | .struct _ | .array _ _ => true | _ => false) = true) (hi2 : (P.info? ty2).map (·.size) = some cs2.size) :
    (results fn tmps).run P w = .ok (.tuple #[.agg cs, .agg cs2]) w := by
  have hp' : tmps[p]?.getD undef = .pointer (some ⟨g, 0, none⟩) := by simpa using hp
  have hq' : tmps[q]?.getD undef = .pointer (some ⟨g2, 0, none⟩) := by simpa using hq
  simp [results, h, hp', hq', asAddr, run_loadVar_row w g t ty cs fr d hg hu hd hi, run_loadVar_row w g2 t2 ty2 cs2 fr2 d2 hg2 hu2 hd2 hi2]
end Go.Proofs.Ytleaimlaljlokaa
