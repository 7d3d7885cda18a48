/- HuffCoding at arguments that came in. Condition: what came in fits into memory. -/
import Derived.Test.YtiijhaajaglabaaHuffCoding
import Derived.SizedLaws
set_option linter.unusedVariables false
namespace Go.Proofs.Ytiijhaajaglabaa
open Go.RowKit Go.ChangeShapes Go.WideShapes Go.ChangeAt Pal

theorem open_ints_atS {H : Type} {enc : TypeId × Value → H} {P : Program} {W : World} {t e : Nat} {k : IntKind} {v : Value} {fuel : Nat} {x : DataW H × List MemPlace} {R : Nat} (ht : P.underlying t = some (.slice e)) (he : P.underlying e = some (.int k)) (hc : P.cellsOf e = 1)
    (hf : DataW.trod enc P W 0 (fun _ => true) true fuel t [v] = some x) (hs : ∀ n ∈ x.1.weights P t, n ≤ R) :
    ∃ zs : List Int, Rd W 1 v zs.length (zs.map (.int k)) ∧ (∀ n ∈ zs, (Lit.int k n).wf = true) ∧ zs.length * P.bytesOf e ≤ R := by
  rcases open_ints ht he hc hf with ⟨hcs, hx⟩ | ⟨a, len, cap, zs, hcs, _, hle, hmax, hall, hx, hcell, hwf⟩
  · simp at hcs
    subst hcs
    exact ⟨[], ⟨none, 0, rfl, by simp, Nat.le_refl _, fun _ => ⟨rfl, rfl⟩, fun a ha => by cases ha⟩, (fun n hn => by cases hn), by simp⟩
  · simp at hcs
    subst hcs
    simp at hall
    have hlen : (zs.take len).length = len := by simp; omega
    have hrd : Rd W 1 (.slice (some a) len cap) (zs.take len).length ((zs.take len).map (.int k)) := by
      rw [hlen]
      refine ⟨some a, cap, rfl, by simp; omega, hle, (fun h => by cases h), fun a' ha' j u hu => ?_⟩
      obtain rfl : a = a' := by simpa using ha'
      rw [List.getElem?_map, List.getElem?_take] at hu
      split at hu
      · rw [hcell j (by omega)]
        have hj : j < zs.length := by omega
        simp only [List.getElem?_eq_getElem hj, Option.map_some, Option.some.injEq] at hu
        rw [← hu]
        simp [hj]
      · simp at hu
    refine ⟨zs.take len, hrd, fun n hn => hwf n (List.mem_of_mem_take hn), ?_⟩
    rw [hx] at hs
    have h5 := hs _ (by simp only [DataW.weights, ht]; exact List.mem_cons_self)
    have e1 : (lits (H := H) k (zs.take len)).length = (zs.take len).length := by simp [lits]
    rw [e1, Nat.add_mul] at h5
    omega
set_option maxRecDepth 100000 in
theorem open_coding {H : Type} {enc : TypeId × Value → H} {W : World} {base : Nat} {v : Value} {d : DataW H} {p : List MemPlace}
    (o : Value.okWide Try.prog W .any base 25 v) (h : DataW.Trod enc Try.prog W 0 (fun _ => true) true 25 v d p) (hs : ∀ n ∈ d.weights Try.prog 25, n ≤ reachBytes) :
    ∃ (lx sx bx : Value) (l S : List Int) (bs : List Nat) (sk le : Int), v = .agg #[lx, sx, bx, z64 sk, z64 le] ∧ Rd W 1 lx l.length (zI l) ∧ Rd W 1 sx S.length (zI S) ∧ Rd W 1 bx bs.length (bs.map b8) ∧ IsBytes bs ∧ l.length * 8 ≤ reachBytes := by
  obtain ⟨cs, rfl, hsz⟩ := okWide_struct Try.underlying25 o
  have hc5 : Try.prog.cellsOf 25 = 5 := by kernel_rfl
  have ci : Try.prog.cellsOf 22 = 1 := by kernel_rfl
  have cj : Try.prog.cellsOf 3 = 1 := by kernel_rfl
  have cu : Try.prog.cellsOf 5 = 1 := by kernel_rfl
  have cr : Try.prog.cellsOf 23 = 1 := by kernel_rfl
  rw [hc5] at hsz
  obtain ⟨fuel, hf⟩ := h
  obtain ⟨xs, k, hk, hxy, _, hxl, hff⟩ := DataW.trod_struct Try.underlying25 hf
  obtain ⟨cl⟩ := cs
  match xs, hxl, cl, hsz with
  | [y0, y1, y2, y3, y4], _, [v0, v1, v2, v3, v4], _ =>
    have g0 := hff 0 _ rfl
    have g1 := hff 1 _ rfl
    have g2 := hff 2 _ rfl
    have g3 := hff 3 _ rfl
    have g4 := hff 4 _ rfl
    simp [ci, cj, cr, Value.cells] at g0 g1 g2 g3 g4
    obtain ⟨z3, q3, _, b3⟩ := DataW.trod_int Try.underlying3 g3
    obtain ⟨z4, q4, _, b4⟩ := DataW.trod_int Try.underlying3 g4
    have q3 : v3 = z64 z3 := by simpa using q3
    have q4 : v4 = z64 z4 := by simpa using q4
    subst q3 q4
    have hd : d = .agg [y0.1, y1.1, y2.1, y3.1, y4.1] := by
      have := congrArg Prod.fst hxy
      simpa using this
    have h0 : ∀ n ∈ y0.1.weights Try.prog 22, n ≤ reachBytes := fun n hn => hs n (by
      rw [hd]
      simp only [DataW.weights, Try.underlying25]
      exact DataW.weights_mem_each (j := 0) (t := 22) rfl rfl n hn)
    obtain ⟨l, hl, -, hll⟩ := open_ints_atS Try.underlying22 Try.underlying3 cj g0 h0
    rw [show Try.prog.bytesOf 3 = 8 from by kernel_rfl] at hll
    have o1 : ∀ {vv : Value} {x : DataW H × List MemPlace} {t e : Nat} {kk : IntKind}, Try.prog.underlying t = some (.slice e) → Try.prog.underlying e = some (.int kk) → Try.prog.cellsOf e = 1 → DataW.trod enc Try.prog W 0 (fun _ => true) true k t [vv] = some x →
        ∃ zs : List Int, Rd W 1 vv zs.length (zs.map (.int kk)) ∧ (∀ n ∈ zs, (Lit.int kk n).wf = true) := fun {vv x t e kk} ht he hc hfx => by
      obtain ⟨zs, r1, r2, -⟩ := open_ints_atS (R := (x.1.weights Try.prog t).foldl Nat.max 0) ht he hc hfx (fun n hn => by
        have key : ∀ (L : List Nat) (a : Nat), a ≤ L.foldl Nat.max a ∧ ∀ n ∈ L, n ≤ L.foldl Nat.max a := by
          intro L
          induction L with
          | nil => intro a; exact ⟨Nat.le_refl _, fun n hn => by cases hn⟩
          | cons b L ih =>
            intro a
            have h1 := ih (Nat.max a b)
            refine ⟨Nat.le_trans (Nat.le_max_left a b) h1.1, fun n hn => ?_⟩
            rcases List.mem_cons.1 hn with rfl | hn
            · exact Nat.le_trans (Nat.le_max_right a n) h1.1
            · exact h1.2 n hn
        exact (key _ 0).2 n hn)
      exact ⟨zs, r1, r2⟩
    obtain ⟨S, hS, -⟩ := o1 Try.underlying22 Try.underlying3 cj g1
    obtain ⟨bz, hbz, hbw⟩ := o1 Try.underlying23 Try.underlying5 cu g2
    obtain ⟨e1, e2⟩ := nats_of hbw wf_u8
    refine ⟨v0, v1, v2, l, S, bz.map Int.toNat, z3, z4, rfl, hl, hS, ?_, e2, hll⟩
    rw [List.length_map, ← show bz.map (Value.int .u8) = (bz.map Int.toNat).map b8 from e1]
    exact hbz
set_option maxRecDepth 100000 in
theorem huffCoding_call {H : Type} (enc : TypeId × Value → H) (base : Nat) (v0 : Value) (d0 : DataW H) (p0 : List MemPlace) (W : World)
    (o0 : Value.okWide Try.prog W .any base 25 v0) (h0 : DataW.Trod enc Try.prog W 0 (fun _ => true) true 25 v0 d0 p0) (hs : ∀ n ∈ d0.weights Try.prog 25, n ≤ reachBytes) :
    Calls Try.prog 3 #[v0] W fun e W' => e = .returned (.bool true) ∧ Chg [] W W' := by
  obtain ⟨lx, sx, bx, l, S, bs, sk, le, rfl, h1, h2, h3, h4, h5⟩ := open_coding o0 h0 hs
  exact coding_any sk le h1 h2 h3 h4 h5
end Go.Proofs.Ytiijhaajaglabaa
