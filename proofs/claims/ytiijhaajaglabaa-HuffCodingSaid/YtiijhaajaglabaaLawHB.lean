/- What the laws of lengths share: two lists, lists in memory of their own with a mark behind. Numbers that came in. -/
import Derived.Test.YtiijhaajaglabaaCodeD
import Derived.OpenShut
import Derived.SizedLaws
import Derived.ChangeSlices
set_option linter.unusedVariables false
namespace Go.Proofs.Ytiijhaajaglabaa
open Go.RowKit Go.ChangeShapes Go.WideShapes Go.ChangeAt Pal
theorem at_intA {l : List Int} {i : Nat} (h : i < l.length) : l.getD i 0 = l[i] := by simp [List.getD_eq_getElem?_getD, h]
set_option maxHeartbeats 2000000 in
theorem ints_same {w : World} {a b : Value} {l : List Int} (ha : Rd w 1 a l.length (zI l)) (hb : Rd w 1 b l.length (zI l)) (hl : l.length ≤ 9223372036854775807) :
    Calls Try.prog 10 #[a, b] w fun e w' => e = .returned (.bool true) ∧ ∃ n, w' = w.drewN n := by
  have HA := Pal.hid ha
  have HB := Pal.hid hb
  have HL := Pal.hid hl
  obtain ⟨ao, ac, rfl, -, -, -, -⟩ := ha
  obtain ⟨bo, bc, rfl, -, -, -, -⟩ := hb
  clear hl
  go_enter Try.func10, Try.ntmps10
  go_wp2_with fail
  go_loopw [5] (fun iv wr => ∃ (i n : Nat), iv = z64 i ∧ Hid (i ≤ l.length) ∧ wr = w.drewN n) (fun iv _ => l.length - (intOf iv).toNat)
  case atStart => exact ⟨0, 0, rfl, Pal.hid (Nat.zero_le _), rfl⟩
  case round =>
    obtain ⟨i, n, rfl, HI, rfl⟩ := hrel
    have hi := HI.out
    by_cases hlt : i < l.length
    · have hlti : (i : Int) < l.length := by omega
      obtain ⟨b1, off, cap', hv, -, -, hcell⟩ := HA.out.at (by simp; omega)
      obtain ⟨rfl, rfl⟩ : ao = some ⟨b1, off, none⟩ ∧ cap' = ac := by simpa [eq_comm] using hv
      obtain ⟨b2, off2, cap2, hv2, -, -, hcell2⟩ := HB.out.at (by simp; omega)
      obtain ⟨rfl, rfl⟩ : bo = some ⟨b2, off2, none⟩ ∧ cap2 = bc := by simpa [eq_comm] using hv2
      clear hv hv2
      have hx := hcell i _ (zI_at hlt)
      have hy := hcell2 i _ (zI_at hlt)
      have hx : (w.drewN n).cell? ⟨b1, off + i, none⟩ = _ := hx
      have hy : (w.drewN n).cell? ⟨b2, off2 + i, none⟩ = _ := hy
      generalize l.getD i 0 = N at *
      have hwi : IntKind.i64.wrap ((i : Int) + 1) = ((i + 1 : Nat) : Int) := IntWalk.i64_in _ (by have := HL.out; omega)
      clear hcell hcell2
      go_wp2_with fail
      go_quiet (fail)
      go_wp2_with fail
      refine ⟨⟨i + 1, _, rfl, Pal.hid (by omega), rfl⟩, by simp [intOf]; omega⟩
    · have hlti : ¬ (i : Int) < l.length := by omega
      go_wp2_with fail
      go_ret
      exact ⟨rfl, n, rfl⟩
/-- A list in memory of its own, with a mark behind. -/
structure Lent (w : World) (g cap : Nat) (l : List Int) : Prop where
  own : Own w 3 1 (.slice (some ⟨g, 0, none⟩) (l.length + 1) cap) (l.length + 1) (zI l ++ [z64 77])
theorem Lent.rd {w : World} {g cap : Nat} {l : List Int} (h : Lent w g cap l) : Rd w 1 (.slice (some ⟨g, 0, none⟩) l.length cap) l.length (zI l) := by
  rcases own_shape h.own with ⟨h1, -, -⟩ | ⟨g', cap', h1, h2, h3, -⟩
  · cases h1
  · cases h1
    refine ⟨_, _, rfl, by simp, by omega, (fun h => by cases h), fun a ha j u hu => ?_⟩
    obtain rfl : (⟨g, 0, none⟩ : Addr) = a := by simpa using ha
    rw [addr_add]
    have hj : j < (zI l).length := (List.getElem?_eq_some_iff.1 hu).1
    have := own_cell h.own j (u := u) (by rw [List.getElem?_append_left hj]; exact hu)
    simpa using this
theorem Lent.mark {w : World} {g cap : Nat} {l : List Int} (h : Lent w g cap l) : w.cell? ⟨g, l.length, none⟩ = some (z64 77) :=
  own_cell h.own l.length (by simp)
theorem Lent.cap {w : World} {g cap : Nat} {l : List Int} (h : Lent w g cap l) : l.length + 1 ≤ cap := by
  rcases own_shape h.own with ⟨h1, -, -⟩ | ⟨g', cap', h1, h2, h3, -⟩
  · cases h1
  · cases h1; exact h2
theorem Lent.still {w w' : World} {g cap : Nat} {l : List Int} (h : Lent w g cap l) (hc : Chg [] w w') : Lent w' g cap l := ⟨hc.owns h.own (by simp)⟩
set_option maxHeartbeats 2000000 in
theorem lent_any {w : World} {v : Value} {l : List Int} (hrd : Rd w 1 v l.length (zI l)) (hl : l.length * 8 ≤ 140737488351232) :
    Calls Try.prog 5 #[v] w fun e w' => ∃ g cap, e = .returned (.slice (some ⟨g, 0, none⟩) l.length cap) ∧ Lent w' g cap l ∧ w.heap.size ≤ g ∧ Chg [] w w' := by
  obtain ⟨ao, cap, rfl, h1, h2, h3, h4⟩ := hrd
  have HRD : Hid (Rd w 1 (.slice ao l.length cap) l.length (zI l)) := Pal.hid ⟨ao, cap, rfl, h1, h2, h3, h4⟩
  clear h1 h2 h3 h4
  have ho := World.ownsRow_lit (base := 0) (e := 3) (size := 1) w #[] 0 (Nat.zero_le _) (by decide) rfl
  have ha := (Chg.refl [] w).alloc (.cells #[] 3)
  have hr := HRD.out.keep ha (by simp)
  have HAL := Pal.hid ha
  clear ha
  go_enter Try.func5, Try.ntmps5
  go_wp2_with (at_builtin; refine wpList_app slInt rfl _ _ rfl rfl rfl ho hr (oneCell_zI l) (by omega) (by unfold maxLen; omega) ?_)
  intro v1 w1 own1 chg1 hat1
  have hc1 : Chg [] w w1 := HAL.out.trans chg1 (fun k hk => by simp [Value.ownBlock] at hk; omega)
  have hn1 : New w v1 := fun k hk => by
    rcases hat1 with e | e
    · rw [e] at hk; simp [Value.ownBlock] at hk; omega
    · rw [e] at hk; simp at hk; omega
  obtain ⟨a1, k1, rfl⟩ := own_slice own1
  have HO1 := Pal.hid own1
  have HC1 := Pal.hid hc1
  have HN1 := Pal.hid hn1
  have HR2 : Hid (Rd (w1.alloc (.cells #[z64 77] 3)) 1 (.slice (some ⟨w1.heap.size, 0, none⟩) 1 1) 1 [z64 77]) := Pal.hid (Rd.one (m := 1) (c := 1) (sz := 1) (heap_new w1 (.cells #[z64 77] 3)) rfl)
  have hb1 : (l.length + 1) * 8 ≤ 140737488355328 := by omega
  have hb2 : l.length + 1 ≤ maxLen := by unfold maxLen; omega
  have HL := Pal.hid hl
  clear own1 chg1 hat1 hc1 hn1 ho hr hl
  go_wp2_with (at_builtin; refine wpList_app (v := .slice a1 l.length k1) slInt rfl _ _ rfl rfl rfl (World.ownsRow.alloc HO1.out _) HR2.out (by intro u hu; simp at hu; subst hu; rfl) hb1 hb2 ?_)
  intro v2 w2 own2 chg2 hat2
  obtain ⟨g, c2, rfl, -⟩ := own_form own2 (by omega)
  have HLT : Hid (Lent w2 g c2 l) := Pal.hid ⟨own2⟩
  have hcp := HLT.out.cap
  have hcpi : (l.length : Int) ≤ c2 := by omega
  have HCH : Hid (Chg [] w w2) := Pal.hid ((HC1.out.trans ((Chg.refl [] w1).alloc (.cells #[z64 77] 3)) (by simp)).trans chg2 (fun k hk => .inr (HN1.out k (by simpa using hk))))
  have HG : Hid (w.heap.size ≤ g) := Pal.hid (by
    rcases hat2 with e | e
    · exact HN1.out g e.symm
    · have := HC1.out.size
      simp [Value.ownBlock] at e
      omega)
  clear own2 chg2 hat2 hb1 hb2 hcp
  go_wp2_with fail
  go_ret
  exact ⟨g, c2, rfl, HLT.out, HG.out, HCH.out⟩
set_option maxHeartbeats 2000000 in
theorem kept_any {w : World} {g cap : Nat} {b : Value} {l : List Int} (h : Lent w g cap l) (hb : Rd w 1 b l.length (zI l)) (hl : l.length ≤ 17592186043904) :
    Calls Try.prog 7 #[.slice (some ⟨g, 0, none⟩) l.length cap, b] w fun e w' => e = .returned (.bool true) ∧ ∃ n, w' = w.drewN n := by
  have HI := Pal.hid (ints_same h.rd hb (by omega))
  have hm : ∀ n, (w.drewN n).cell? ⟨g, l.length, none⟩ = some (z64 77) := fun n => h.mark
  have hc := h.cap
  have hw1 : IntKind.i64.wrap ((l.length : Int) + 1) = ((l.length + 1 : Nat) : Int) := IntWalk.i64_in _ (by omega)
  obtain ⟨m, hmm⟩ : ∃ m, m = l.length + 1 := ⟨_, rfl⟩
  rw [← hmm] at hw1
  have hci : (m : Int) ≤ cap := by omega
  have hli : (l.length : Int) < m := by omega
  obtain ⟨bo, bc, rfl, -, -, -, -⟩ := hb
  clear h hmm hc
  go_enter Try.func7, Try.ntmps7
  go_wp2_with fail
  refine HI.out.mono ?_
  rintro e w2 ⟨rfl, n, rfl⟩
  have hmn := hm n
  go_wp2_with fail
  go_ret
  exact ⟨rfl, n, rfl⟩
/-- Numbers that came in. -/
theorem open_rdS {H : Type} {enc : TypeId × Value → H} {P : Program} {W : World} {base t e : Nat} {k : IntKind} {v : Value} {d : DataW H} {p : List MemPlace} {B R : Nat} (ht : P.underlying t = some (.slice e)) (he : P.underlying e = some (.int k)) (hc : P.cellsOf e = 1)
    (o : Value.okWide P W .any base t v) (h : DataW.Trod enc P W 0 (fun _ => true) true t v d p) (hs : ∀ elems spare, d = .slice elems spare → (elems.length + spare.length) * B ≤ R) :
    ∃ zs : List Int, Rd W 1 v zs.length (zs.map (.int k)) ∧ (∀ n ∈ zs, (Lit.int k n).wf = true) ∧ zs.length * B ≤ R := by
  obtain ⟨ao, len, cap, rfl⟩ := okWide_slice ht o
  obtain ⟨fuel, hf⟩ := h
  rcases open_ints ht he hc hf with ⟨hcs, hx⟩ | ⟨a, len', cap', zs, hcs, _, hle, hmax, hall, hx, hcell, hwf⟩
  · simp [Value.cells] at hcs
    obtain ⟨rfl, rfl, rfl⟩ := hcs
    exact ⟨[], ⟨none, 0, rfl, by simp, Nat.le_refl _, fun _ => ⟨rfl, rfl⟩, fun a ha => by cases ha⟩, (fun n hn => by cases hn), by simp⟩
  · simp [Value.cells] at hcs
    obtain ⟨rfl, rfl, rfl⟩ := hcs
    simp at hall
    have hlen : (zs.take len).length = len := by simp; omega
    have hrd : Rd W 1 (.slice (some a) len cap) (zs.take len).length ((zs.take len).map (.int k)) := by
      rw [hlen]
      refine ⟨some a, cap, rfl, by simp; omega, hle, (fun h => by cases h), fun a' ha' j u hu => ?_⟩
      obtain rfl : a = a' := by simpa using ha'
      rw [List.getElem?_map, List.getElem?_take] at hu
      split at hu
      · rw [hcell j (by omega)]
        have hj : j < zs.length := by omega
        simp only [List.getElem?_eq_getElem hj, Option.map_some, Option.some.injEq] at hu
        rw [← hu]
        simp [hj]
      · simp at hu
    refine ⟨zs.take len, hrd, fun n hn => hwf n (List.mem_of_mem_take hn), ?_⟩
    have hd := congrArg Prod.fst hx
    have h5 := hs _ _ hd
    have e1 : (lits (H := H) k (zs.take len)).length = (zs.take len).length := by simp [lits]
    rw [e1, Nat.add_mul] at h5
    omega
end Go.Proofs.Ytiijhaajaglabaa

namespace Go.Proofs.Ytiijhaajaglabaa
open Go.RowKit Go.ChangeShapes Go.WideShapes Go.ChangeAt Pal
theorem open_rd {H : Type} {enc : TypeId × Value → H} {P : Program} {W : World} {base t e : Nat} {k : IntKind} {v : Value} {d : DataW H} {p : List MemPlace} (ht : P.underlying t = some (.slice e)) (he : P.underlying e = some (.int k)) (hc : P.cellsOf e = 1)
    (o : Value.okWide P W .any base t v) (h : DataW.Trod enc P W 0 (fun _ => true) true t v d p) :
    ∃ zs : List Int, Rd W 1 v zs.length (zs.map (.int k)) ∧ (∀ n ∈ zs, (Lit.int k n).wf = true) ∧ zs.length ≤ maxLen := by
  obtain ⟨ao, len, cap, rfl⟩ := okWide_slice ht o
  obtain ⟨fuel, hf⟩ := h
  rcases open_ints ht he hc hf with ⟨hcs, hx⟩ | ⟨a, len', cap', zs, hcs, _, hle, hmax, hall, hx, hcell, hwf⟩
  · simp [Value.cells] at hcs
    obtain ⟨rfl, rfl, rfl⟩ := hcs
    exact ⟨[], ⟨none, 0, rfl, by simp, Nat.le_refl _, fun _ => ⟨rfl, rfl⟩, fun a ha => by cases ha⟩, (fun n hn => by cases hn), by simp⟩
  · simp [Value.cells] at hcs
    obtain ⟨rfl, rfl, rfl⟩ := hcs
    simp at hall
    have hlen : (zs.take len).length = len := by simp; omega
    have hrd : Rd W 1 (.slice (some a) len cap) (zs.take len).length ((zs.take len).map (.int k)) := by
      rw [hlen]
      refine ⟨some a, cap, rfl, by simp; omega, hle, (fun h => by cases h), fun a' ha' j u hu => ?_⟩
      obtain rfl : a = a' := by simpa using ha'
      rw [List.getElem?_map, List.getElem?_take] at hu
      split at hu
      · rw [hcell j (by omega)]
        have hj : j < zs.length := by omega
        simp only [List.getElem?_eq_getElem hj, Option.map_some, Option.some.injEq] at hu
        rw [← hu]
        simp [hj]
      · simp at hu
    exact ⟨zs.take len, hrd, fun n hn => hwf n (List.mem_of_mem_take hn), by omega⟩

/-- Numbers of a kind without a sign. -/
theorem nats_of {k : IntKind} {B : Nat} {zs : List Int} (hw : ∀ n ∈ zs, (Lit.int k n).wf = true) (hk : ∀ n : Int, (Lit.int k n).wf = true → 0 ≤ n ∧ n < B) :
    zs.map (Value.int k) = (zs.map Int.toNat).map (fun n : Nat => Value.int k (n : Int)) ∧ ∀ x ∈ zs.map Int.toNat, x < B := by
  refine ⟨?_, fun x hx => ?_⟩
  · rw [List.map_map]
    refine List.map_congr_left fun n hn => ?_
    have := hk n (hw n hn)
    show Value.int k n = Value.int k (n.toNat : Int)
    rw [Int.toNat_of_nonneg this.1]
  · obtain ⟨n, hn, rfl⟩ := List.mem_map.1 hx
    have := hk n (hw n hn)
    omega
theorem wf_u32 (n : Int) (h : (Lit.int .u32 n).wf = true) : 0 ≤ n ∧ n < (4294967296 : Nat) := by
  simp [Lit.wf, IntKind.min, IntKind.max, IntKind.bits, IntKind.signed] at h
  omega
theorem wf_u8 (n : Int) (h : (Lit.int .u8 n).wf = true) : 0 ≤ n ∧ n < (256 : Nat) := by
  simp [Lit.wf, IntKind.min, IntKind.max, IntKind.bits, IntKind.signed] at h
  omega
end Go.Proofs.Ytiijhaajaglabaa
