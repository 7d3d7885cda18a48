/- The map of the finder: three bytes, and the last place that bears them. -/
import Derived.Test.YtleaimlaljlokaaProg
import Derived.Test.YtleaimlaljlokaaLzFind
import Derived.Outline
import Derived.WalkLawsBesides
import Derived.Maps.Own
import Derived.DeepKeys4
set_option linter.unusedVariables false
namespace Go.Proofs.Ytleaimlaljlokaa
open Go.RowKit Pal Go.MapKept

def key3 (b : List Nat) (i : Nat) : Value := .agg #[b8 (b.getD i 0), b8 (b.getD (i + 1) 0), b8 (b.getD (i + 2) 0)]

theorem key3_eq {b : List Nat} {i j : Nat} : key3 b i = key3 b j ↔ same3 b i j := by
  unfold key3 same3
  simp only [Value.agg.injEq, Array.mk.injEq, List.cons.injEq, Value.int.injEq, true_and, and_true]
  omega

theorem laidOutP : laidOutB Try.prog = true := by kernel_rfl
theorem wideK : (match Try.prog.underlying 85 with | some (.array _ _) | some (.struct _) => true | _ => false) = true := by kernel_rfl
theorem lawK : Go.Maps.Keyed Try.prog 85 := Go.Maps.Keyed.of_law (deep_law_laid laidOutP (m := 2) (by omega) (of_decide_eq_true (by kernel_rfl)) (by kernel_rfl) wideK)

theorem cellsK : Try.prog.cellsOf 85 = 3 := by kernel_rfl
theorem cells8 : Try.prog.cellsOf 5 = 1 := by kernel_rfl
theorem keyTypeK : Try.prog.keyType 85 = true := by kernel_rfl
theorem typesSz : ∃ n, Try.prog.types.size = n + 1 := ⟨Try.prog.types.size - 1, by have : 0 < Try.prog.types.size := of_decide_eq_true (by kernel_rfl); omega⟩

theorem keyOf3 (x y z : Nat) (hx : x < 256) (hy : y < 256) (hz : z < 256) : ∃ l, keyOf Try.prog 85 (.agg #[b8 x, b8 y, b8 z]) = some l := by
  obtain ⟨n, hn⟩ := typesSz
  have h1 : ∀ a : Nat, a < 256 → Try.prog.keyLits (n + 1) 5 [b8 a] = some [.int .u8 a] := fun a ha => by
    unfold Program.keyLits
    simp only [Try.underlying5]
    rw [if_pos ⟨trivial, by simp [Lit.wf, IntKind.min, IntKind.max, IntKind.bits, IntKind.signed]; omega⟩]
  have hf : (Value.agg #[b8 x, b8 y, b8 z]).formed Try.prog 85 = true := by simp [Value.formed, Try.underlying85, cellsK]
  refine Option.isSome_iff_exists.1 ?_
  unfold keyOf
  simp only [Try.underlying85, keyTypeK, hf, Bool.and_true, if_true, hn]
  unfold Program.keyLits
  simp only [Try.underlying85, cellsK, cells8, Value.cells]
  simp [List.range_succ, h1 x hx, h1 y hy, h1 z hz]

/-- What the map holds when the places below put are in. -/
structure Keys (b : List Nat) (put : Nat) (es : Array MapEntry) : Prop where
  held : ∀ e ∈ es.toList, ∃ i, i < put ∧ i + 3 ≤ b.length ∧ e.key = key3 b i ∧ e.val = z64 (lastK b i put)
  all : ∀ i, i < put → i + 3 ≤ b.length → ∃ e ∈ es.toList, e.key = key3 b i
  one : es.toList.Pairwise fun x y => x.key ≠ y.key

theorem Keys.start (b : List Nat) : Keys b 0 #[] := ⟨by simp, fun i hi => by omega, by simp⟩

theorem Keys.past {b : List Nat} {put : Nat} {es : Array MapEntry} (h : Keys b put es) (hp : b.length < put + 3) : Keys b (put + 1) es := by
  refine ⟨fun e he => ?_, fun i hi h3 => h.all i (by omega) h3, h.one⟩
  obtain ⟨i, h1, h2, h3, h4⟩ := h.held e he
  exact ⟨i, by omega, h2, h3, by rw [h4, lastK, if_neg (by omega)]⟩

theorem isKey3 {b : List Nat} (hb : ∀ x ∈ b, x < 256) (i : Nat) : ∃ l, keyOf Try.prog 85 (key3 b i) = some l := keyOf3 _ _ _ (getD_bytes hb _) (getD_bytes hb _) (getD_bytes hb _)

theorem Keys.keyed {b : List Nat} {put : Nat} {es : Array MapEntry} (h : Keys b put es) (hb : ∀ x ∈ b, x < 256) : ∀ e ∈ es.toList, ∃ l, keyOf Try.prog 85 e.key = some l := fun e he => by
  obtain ⟨i, _, _, h3, _⟩ := h.held e he
  rw [h3]
  exact isKey3 hb i

theorem Keys.look {b : List Nat} {put : Nat} {es : Array MapEntry} (h : Keys b put es) (hb : ∀ x ∈ b, x < 256) (a : Nat) (w : World) :
    ((Instr.findKey 85 (key3 b a) es.toList).run Try.prog w = .ok none w ∧ lastK b a put = -1 ∧ ∀ e ∈ es.toList, e.key ≠ key3 b a) ∨
      ∃ j e, (Instr.findKey 85 (key3 b a) es.toList).run Try.prog w = .ok (some (j, e.val)) w ∧ es.toList[j]? = some e ∧ e.key = key3 b a ∧ e.val = z64 (lastK b a put) ∧ 0 ≤ lastK b a put := by
  obtain ⟨l, hl⟩ := isKey3 hb a
  rcases lawK.find w hl es.toList (h.keyed hb) with ⟨h1, h2⟩ | ⟨j, e, h1, h2, h3⟩
  · refine .inl ⟨h1, ?_, h2⟩
    rcases lastK_spec b a put with ⟨e, _⟩ | ⟨q, e, q1, q2, q3, _⟩
    · exact e
    · obtain ⟨e', he', hk⟩ := h.all q q1 q2
      exact absurd (hk.trans (key3_eq.2 q3)) (h2 e' he')
  · refine .inr ⟨j, e, h1, h2, h3, ?_⟩
    obtain ⟨i, i1, i2, i3, i4⟩ := h.held e (List.mem_of_getElem? h2)
    have hs := key3_eq.1 (i3.symm.trans h3)
    refine ⟨by rw [i4, lastK_congr hs], ?_⟩
    rcases lastK_spec b a put with ⟨_, e2⟩ | ⟨q, e, _⟩
    · exact absurd hs (e2 i i1 i2)
    · rw [e]; omega

/-- v, ok := f.last[k] -/
theorem run_look {b : List Nat} {put : Nat} {es : Array MapEntry} {clock mb : Nat} (h : Keys b put es) (hb : ∀ x ∈ b, x < 256) (a : Nat) (w : World) (hm : w.heap[mb]? = some (.map es clock)) :
    (Instr.lookup 80 (.map (some mb)) (key3 b a) true).run Try.prog w = .ok (.tuple #[z64 (if lastK b a put = -1 then 0 else lastK b a put), .bool (decide (¬ lastK b a put = -1))]) w := by
  obtain ⟨l, hl⟩ := isKey3 hb a
  have hz : (zeroValue 3).run Try.prog w = .ok (z64 0) w := by kernel_rfl
  rcases h.look hb a w with ⟨h1, h2, _⟩ | ⟨j, e, h1, _, _, h4, h5⟩
  · rw [h2]
    simp [Instr.lookup, run_underlying Try.underlying80, MapKept.run_getObj_map hm, lawK.check w _ hl, h1, hz, Result.andThen]
  · have hne : ¬ lastK b a put = -1 := by omega
    simp [Instr.lookup, run_underlying Try.underlying80, MapKept.run_getObj_map hm, lawK.check w _ hl, h1, h4, hne, Result.andThen]

theorem lastK_now {b : List Nat} {put : Nat} (h3 : put + 3 ≤ b.length) {i : Nat} (h : same3 b i put) : lastK b i (put + 1) = put := by
  rw [lastK, if_pos ⟨h3, h.symm⟩]
theorem lastK_other {b : List Nat} {put i : Nat} (h : ¬ same3 b i put) : lastK b i (put + 1) = lastK b i put := by
  rw [lastK, if_neg (fun e => h e.2.symm)]

/-- f.last[k] = f.put -/
theorem run_put {b : List Nat} {put : Nat} {es : Array MapEntry} {clock mb : Nat} (h : Keys b put es) (hb : ∀ x ∈ b, x < 256) (h3 : put + 3 ≤ b.length) (w : World) (hm : w.heap[mb]? = some (.map es clock)) :
    ∃ es' clock', (Instr.mapUpdate 80 (.map (some mb)) (key3 b put) (z64 put)).run Try.prog w = .ok () (ChangeMaps.setBlock w mb (.map es' clock')) ∧ Keys b (put + 1) es' := by
  obtain ⟨l, hl⟩ := isKey3 hb put
  rcases h.look hb put w with ⟨h1, h2, h4⟩ | ⟨j, e, h1, hj, hk, h4, h5⟩
  · refine ⟨es.push ⟨key3 b put, z64 put, clock⟩, clock + 1, ?_, ?_⟩
    · simp [Instr.mapUpdate, run_underlying Try.underlying80, MapKept.run_getObj_map hm, lawK.check w _ hl, h1, MapKept.run_setObj_map _ hm, Result.andThen, ChangeMaps.setBlock]
    · refine ⟨fun e he => ?_, fun i hi hi3 => ?_, ?_⟩
      · simp only [Array.toList_push, List.mem_append, List.mem_singleton] at he
        rcases he with he | rfl
        · obtain ⟨i, i1, i2, i3, i4⟩ := h.held e he
          have hn : ¬ same3 b i put := fun hs => h4 e he (i3.trans (key3_eq.2 hs))
          exact ⟨i, by omega, i2, i3, by rw [i4, lastK_other hn]⟩
        · exact ⟨put, by omega, h3, rfl, by rw [lastK_now h3 ⟨rfl, rfl, rfl⟩]⟩
      · rcases Nat.lt_or_ge i put with hlt | hge
        · obtain ⟨e, he, hk⟩ := h.all i hlt hi3
          exact ⟨e, by simp [he], hk⟩
        · obtain rfl : i = put := by omega
          exact ⟨_, by simp; exact .inr rfl, rfl⟩
      · rw [Array.toList_push, List.pairwise_append]
        refine ⟨h.one, by simp, fun x hx y hy => ?_⟩
        obtain rfl := List.mem_singleton.1 hy
        exact h4 x hx
  · have hje : es[j]? = some e := by simpa using hj
    have hjl : j < es.toList.length := (List.getElem?_eq_some_iff.1 hj).1
    have hat : es.toList[j] = e := (List.getElem?_eq_some_iff.1 hj).2
    refine ⟨es.modify j (fun e' => { e' with key := key3 b put, val := z64 put }), clock, ?_, ?_⟩
    · simp [Instr.mapUpdate, run_underlying Try.underlying80, MapKept.run_getObj_map hm, lawK.check w _ hl, h1, hje, hk, lawK.stays w hl, MapKept.run_setObj_map _ hm, Result.andThen, ChangeMaps.setBlock]
    · have hlist : (es.modify j (fun e' => { e' with key := key3 b put, val := z64 put })).toList = es.toList.set j { e with key := key3 b put, val := z64 put } := by
        rw [Array.toList_modify, ChangeMaps.modify_eq_set _ _ _ _ hj]
      have hone := h.one
      have hself : ({ e with key := key3 b put, val := z64 put } : MapEntry).key = e.key := hk.symm
      refine ⟨fun x hx => ?_, fun i hi hi3 => ?_, ?_⟩
      · rw [hlist] at hx
        obtain ⟨k, hk1, hk2⟩ := List.mem_iff_getElem.1 hx
        rw [List.getElem_set] at hk2
        split at hk2
        · subst hk2
          exact ⟨put, by omega, h3, rfl, by rw [lastK_now h3 ⟨rfl, rfl, rfl⟩]⟩
        · rename_i hne
          have hkl : k < es.toList.length := by simpa using hk1
          obtain ⟨i, i1, i2, i3, i4⟩ := h.held x (hk2 ▸ List.getElem_mem hkl)
          have hn : ¬ same3 b i put := fun hs => by
            have hxe : x.key = e.key := (i3.trans (key3_eq.2 hs)).trans hk.symm
            rw [List.pairwise_iff_getElem] at hone
            rcases Nat.lt_or_ge j k with hlt | hge
            · exact hone j k hjl hkl hlt (by rw [hat, hk2, hxe])
            · exact hone k j hkl hjl (by omega) (by rw [hat, hk2, hxe])
          exact ⟨i, by omega, i2, i3, by rw [i4, lastK_other hn]⟩
      · rw [hlist]
        have hmem : ∃ e0 ∈ es.toList, e0.key = key3 b i := by
          rcases Nat.lt_or_ge i put with hlt | hge
          · exact h.all i hlt hi3
          · obtain rfl : i = put := by omega
            exact ⟨e, List.mem_of_getElem? hj, hk⟩
        obtain ⟨e0, he0, hk0⟩ := hmem
        obtain ⟨k, hk1, hk2⟩ := List.mem_iff_getElem.1 he0
        refine ⟨(es.toList.set j { e with key := key3 b put, val := z64 put })[k]'(by simpa using hk1), List.getElem_mem _, ?_⟩
        rw [List.getElem_set]
        split
        · rename_i hjk
          subst hjk
          show key3 b put = key3 b i
          rw [← hk, ← hk0, ← hk2, hat]
        · rw [hk2, hk0]
      · rw [hlist]
        rw [List.pairwise_iff_getElem] at hone ⊢
        intro i k hi hk' hik
        have hkey : ∀ (m : Nat) (hm : m < (es.toList.set j { e with key := key3 b put, val := z64 put }).length), (es.toList.set j { e with key := key3 b put, val := z64 put })[m].key = (es.toList[m]'(by simpa using hm)).key := by
          intro m hm
          rw [List.getElem_set]
          split
          · rename_i hjm
            subst hjm
            rw [hself, hat]
          · rfl
        rw [hkey i hi, hkey k hk']
        exact hone i k (by simpa using hi) (by simpa using hk') hik
end Go.Proofs.Ytleaimlaljlokaa
