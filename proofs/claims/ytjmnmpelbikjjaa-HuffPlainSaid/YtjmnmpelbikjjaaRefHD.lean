/- The document's least cost: with. -/
import Derived.Test.YtjmnmpelbikjjaaRefHC
import Derived.Test.YtjmnmpelbikjjaaPmLow
import Derived.Test.YtjmnmpelbikjjaaCodeD
set_option linter.unusedVariables false
namespace Pal
open Go Go.RowKit
/-- The beginning of a slice. -/
theorem Rd.pre {w : World} {sz : Nat} {ao : Option Addr} {n cap m : Nat} {xs : List Value} (h : Rd w sz (.slice ao n cap) n xs) (hm : m ≤ n) : Rd w sz (.slice ao m cap) m (xs.take (m * sz)) := by
  obtain ⟨ao', cap', e, hl, hc, hn, hcell⟩ := h
  simp only [Value.slice.injEq] at e
  obtain ⟨rfl, -, rfl⟩ := e
  have hms : m * sz ≤ n * sz := Nat.mul_le_mul_right _ hm
  refine ⟨_, _, rfl, by rw [List.length_take, hl, Nat.min_eq_left hms], by omega, fun h => ?_, fun a ha j u hu => ?_⟩
  · have := hn h; omega
  · rw [List.getElem?_take] at hu
    split at hu
    · exact hcell a ha j u hu
    · cases hu
theorem rd_zero (w : World) (ao : Option Addr) : Rd w 1 (.slice ao 0 0) 0 [] := ⟨ao, 0, rfl, rfl, Nat.le_refl _, fun _ => ⟨rfl, rfl⟩, fun a _ j u hu => by simp at hu⟩
theorem rd_none (w : World) (a : Addr) (c : Nat) : Rd w 1 (.slice (some a) 0 c) 0 [] := ⟨_, c, rfl, rfl, Nat.zero_le _, (fun h => by cases h), fun a _ j u hu => by simp at hu⟩
end Pal
namespace Go.Proofs.Ytjmnmpelbikjjaa
open Go.RowKit Pal Pal.Hm Pal.Pm
theorem oneCell_b64l (l : List Nat) : ∀ u ∈ l.map b64, u.oneCell' = true := fun u hu => by
  obtain ⟨x, _, rfl⟩ := List.mem_map.1 hu
  rfl
theorem up_ins {l : List Nat} {x at' : Nat} (hu : Up l) (ha : at' ≤ l.length) (h1 : ∀ y ∈ l.take at', y ≤ x) (h2 : ∀ y ∈ l.drop at', x < y) : Up (l.take at' ++ x :: l.drop at') ∧ (l.take at' ++ x :: l.drop at').Perm (x :: l) := by
  refine ⟨?_, ?_⟩
  · have h := hu
    rw [← List.take_append_drop at' l] at h
    obtain ⟨a, b, c⟩ := List.pairwise_append.1 h
    refine List.pairwise_append.2 ⟨a, List.pairwise_cons.2 ⟨fun y hy => Nat.le_of_lt (h2 y hy), b⟩, fun y hy z hz => ?_⟩
    rcases List.mem_cons.1 hz with rfl | hz
    · exact h1 y hy
    · exact c y hy z hz
  · have := List.perm_middle (a := x) (l₁ := l.take at') (l₂ := l.drop at')
    rwa [List.take_append_drop] at this
set_option maxRecDepth 100000 in
set_option maxHeartbeats 4000000 in
theorem with_any {w : World} {v : Value} {l : List Nat} {x : Nat} (hrd : Rd w 1 v l.length (l.map b64)) (hl : l.length ≤ 100000) (hu : Up l) :
    Calls Try.prog 50 #[v, b64 x] w fun e w' => ∃ v' l', e = .returned v' ∧ l'.Perm (x :: l) ∧ Up l' ∧ Own w' 35 1 v' (l.length + 1) (l'.map b64) ∧ New w v' ∧ Chg [] w w' := by
  have HRD := Pal.hid hrd
  have HU := Pal.hid hu
  obtain ⟨ao, cap, rfl, -, hnc, hno, -⟩ := hrd
  have HNO := Pal.hid hno
  clear hu hno
  go_enter Try.func50, Try.ntmps50
  go_wp2_with fail
  go_loopw [5] (fun iv wr => ∃ (i : Nat), iv = z64 i ∧ Hid (i ≤ l.length) ∧ Hid (∀ y ∈ l.drop i, x < y) ∧ w = wr) (fun iv _ => (intOf iv).toNat)
  case atStart => exact ⟨l.length, rfl, Pal.hid (Nat.le_refl _), Pal.hid (by simp), rfl⟩
  case round =>
    obtain ⟨i, rfl, HI, HD, rfl⟩ := hrel
    have hi := HI.out
    by_cases hgo : ∃ k, i = k + 1 ∧ ∃ y, l[k]? = some y ∧ x < y
    · obtain ⟨k, rfl, y, hy, hxy⟩ := hgo
      have hk : k < l.length := by omega
      have hki : (k : Int) < l.length := by omega
      obtain ⟨b, off, cap', hv, -, -, hcell⟩ := HRD.out.at (by simp; omega)
      obtain ⟨rfl, rfl⟩ : ao = some ⟨b, off, none⟩ ∧ cap' = cap := by simpa [eq_comm] using hv
      clear hv
      have hx := hcell k (b64 y) (by rw [List.getElem?_map, hy]; rfl)
      have hw1 : IntKind.i64.wrap (((k + 1 : Nat) : Int) - 1) = (k : Int) := by
        rw [show ((k + 1 : Nat) : Int) - 1 = (k : Int) by omega]
        exact IntWalk.i64_in _ (by omega)
      have hxyi : (x : Int) < y := by omega
      have hk0 : (0 : Int) < ((k + 1 : Nat) : Int) := by omega
      have HD2 : Hid (∀ z ∈ l.drop k, x < z) := Pal.hid (by
        intro z hz
        rw [List.drop_eq_getElem_cons hk] at hz
        rcases List.mem_cons.1 hz with rfl | hz
        · rw [List.getElem?_eq_getElem hk] at hy
          obtain rfl : l[k] = y := by simpa using hy
          exact hxy
        · exact HD.out z hz)
      obtain ⟨k1, hk1⟩ : ∃ k1, k1 = k + 1 := ⟨_, rfl⟩
      rw [← hk1] at hw1 hk0
      rw [← hk1]
      have HK1 := Pal.hid hk1
      clear hcell hy hk1
      go_wp2_with fail
      exact ⟨⟨k, rfl, Pal.hid (by omega), HD2, trivial⟩, by have := HK1.out; simp [intOf]; omega⟩
    · have HS : Hid (∀ y ∈ l.take i, y ≤ x) := Pal.hid (by
        intro y hy
        rcases Nat.eq_zero_or_pos i with rfl | hp
        · simp at hy
        · have hlt : i - 1 < l.length := by omega
          have hm := take_max HU.out hy (List.getElem?_eq_getElem hlt) hi
          have : ¬ x < l[i - 1] := fun h => hgo ⟨i - 1, by omega, l[i - 1], List.getElem?_eq_getElem hlt, h⟩
          omega)
      have hex : ¬ (0 : Int) < (i : Int) ∨ ∃ (k : Nat) (b off y : Nat), ao = some ⟨b, off, none⟩ ∧ w.cell? ⟨b, off + k, none⟩ = some (b64 y) ∧ ¬ (x : Int) < y ∧ (k : Int) < l.length ∧ IntKind.i64.wrap ((i : Int) - 1) = (k : Int) ∧ (0 : Int) < (i : Int) := by
        rcases Nat.eq_zero_or_pos i with rfl | hp
        · exact .inl (by simp)
        · right
          have hlt : i - 1 < l.length := by omega
          obtain ⟨b, off, cap', hv, -, -, hcell⟩ := HRD.out.at (by simp; omega)
          obtain ⟨rfl, rfl⟩ : ao = some ⟨b, off, none⟩ ∧ cap' = cap := by simpa [eq_comm] using hv
          refine ⟨i - 1, b, off, l[i - 1], rfl, hcell (i - 1) _ (by rw [List.getElem?_map, List.getElem?_eq_getElem hlt]; rfl), ?_, by omega, ?_, by omega⟩
          · intro h
            exact hgo ⟨i - 1, by omega, l[i - 1], List.getElem?_eq_getElem hlt, by omega⟩
          · rw [show (i : Int) - 1 = ((i - 1 : Nat) : Int) by omega]
            exact IntWalk.i64_in _ (by omega)
      have HP := Pal.hid (HRD.out.pre hi)
      rw [Nat.mul_one] at HP
      have hii : (i : Int) ≤ l.length := by omega
      have hic : (i : Int) ≤ cap := by omega
      have hli : (l.length : Int) ≤ cap := by omega
      have hb1 : (0 + i) * 8 ≤ 140737488355328 := by omega
      have hb2 : 0 + i ≤ maxLen := by unfold maxLen; omega
      clear hgo
      have HONE : Hid (∀ y ∈ (l.map b64).take i, y.oneCell' = true) := Pal.hid fun u hu => oneCell_b64l l u (List.mem_of_mem_take hu)
      have HUI := Pal.hid (up_ins (x := x) HU.out hi HS.out HD.out)
      have hsp : (i = l.length ∧ cap = l.length) ∨ (i = l.length ∧ l.length < cap) ∨ i < l.length := by omega
      rcases hsp with ⟨rfl, rfl⟩ | ⟨rfl, hlc⟩ | hlt
      · have HRC0 : Hid (∀ w2, Chg [] w w2 → True) := Pal.hid fun _ _ => trivial
        rcases hex with hz0 | ⟨k, b, off, y, rfl, hx, hxy, hk, hw1, hk0⟩
        all_goals
          go_wp2_with (at_builtin; refine wpList_app slU64c rfl _ _ rfl rfl rfl (own_nil _ _ _) HP.out HONE.out hb1 hb2 ?_)
          intro v1 w1 own1 chg1 hat1
          (try rw [Nat.zero_add, List.nil_append] at own1)
          have hn1 : New w v1 := fun k hk => by
            rcases hat1 with e | e
            · rw [e] at hk; simp [Value.ownBlock] at hk
            · rw [e] at hk; simp at hk; omega
          obtain ⟨a1, k1, rfl⟩ := own_slice own1
          have HO1 := Pal.hid own1
          have HC1 := Pal.hid (chg1.mono (T := []) (by simp [Value.ownBlock]))
          have HN1 := Pal.hid hn1
          have HR2 : Hid (Rd (w1.alloc (.cells #[b64 x] 35)) 1 (.slice (some ⟨w1.heap.size, 0, none⟩) 1 1) 1 [b64 x]) := Pal.hid (Rd.one (m := 1) (c := 1) (sz := 1) (heap_new w1 (.cells #[b64 x] 35)) rfl)
          have hb3 : (l.length + 1) * 8 ≤ 140737488355328 := by omega
          have hb4 : l.length + 1 ≤ maxLen := by unfold maxLen; omega
          clear own1 chg1 hat1 hn1 hb1 hb2
          go_wp2_with (at_builtin; refine wpList_app (v := .slice a1 l.length k1) slU64c rfl _ _ rfl rfl rfl (World.ownsRow.alloc HO1.out _) HR2.out (by intro u hu; simp at hu; subst hu; rfl) hb3 hb4 ?_)
          intro v2 w2 own2 chg2 hat2
          obtain ⟨g, k2, rfl, -⟩ := own_form own2 (by omega)
          have HO2 := Pal.hid own2
          have HC2 : Hid (Chg [] w w2) := Pal.hid ((HC1.out.trans ((Chg.refl [] w1).alloc (.cells #[b64 x] 35)) (by simp)).trans chg2 (fun k hk => .inr (HN1.out k (by simpa using hk))))
          have HG : Hid (w.heap.size ≤ g) := Pal.hid (by
            rcases hat2 with e | e
            · exact HN1.out g e.symm
            · have := HC1.out.size
              simp [Value.ownBlock] at e
              omega)
          have HRC := Pal.hid (HRC0.out w2 HC2.out)
          have hb5 : (l.length + 1 + 0) * 8 ≤ 140737488355328 := by omega
          have hb6 : l.length + 1 + 0 ≤ maxLen := by unfold maxLen; omega
          clear own2 chg2 hat2 hb3 hb4
          go_wp2_with (at_builtin; refine wpList_app (v := .slice (some ⟨g, 0, none⟩) (l.length + 1) k2) (n := l.length + 1) (m := 0) (news := []) slU64c rfl _ _ rfl rfl rfl HO2.out (by first | exact rd_zero _ _ | simpa using rd_zero _ _) (by intro u hu; simp at hu) hb5 hb6 ?_)
          intro v3 w3 own3 chg3 hat3
          have HFO : Hid (Own w3 35 1 v3 (l.length + 1) ((l.take l.length ++ x :: l.drop l.length).map b64)) := Pal.hid (by
            have e : l.length + 1 + 0 = l.length + 1 := by omega
            rw [e] at own3
            have e2 : (l.take l.length ++ x :: l.drop l.length).map b64 = (l.map b64).take l.length ++ [b64 x] ++ [] := by
              rw [List.map_append, List.map_cons, List.map_take, List.map_drop]
              simp
            rw [e2]
            first | exact own3 | (rw [List.append_nil]; exact own3) | (rw [List.append_assoc]; exact own3))
          have HFC : Hid (Chg [] w w3) := Pal.hid (HC2.out.trans chg3 (fun k hk => .inr (by simp [Value.ownBlock] at hk; rw [hk]; exact HG.out)))
          have HFN : Hid (New w v3) := Pal.hid (fun k hk => by
            rcases hat3 with e | e
            · rw [e] at hk; simp [Value.ownBlock] at hk; rw [← hk]; exact HG.out
            · rw [e] at hk
              have := HC2.out.size
              simp at hk
              omega)
          obtain ⟨a3, k3, rfl⟩ := own_slice own3
          clear own3 chg3 hat3 hb5 hb6
          go_wp2_with fail
          go_ret
          exact ⟨_, _, rfl, HUI.out.2, HUI.out.1, HFO.out, HFN.out, HFC.out⟩
      · have HRC0 : Hid (∀ w2, Chg [] w w2 → True) := Pal.hid fun _ _ => trivial
        obtain ⟨aa, rfl⟩ : ∃ aa, ao = some aa := by
          cases ao with
          | none => have := HNO.out rfl; omega
          | some aa => exact ⟨aa, rfl⟩
        have hlci : (l.length : Int) < cap := by omega
        have hne : ¬ l.length = cap := by omega
        rcases hex with hz0 | ⟨k, b, off, y, hbb, hx, hxy, hk, hw1, hk0⟩
        rotate_left
        obtain rfl : aa = ⟨b, off, none⟩ := by simpa using hbb
        clear hbb
        rotate_left
        all_goals
          go_wp2_with (at_builtin; refine wpList_app slU64c rfl _ _ rfl rfl rfl (own_nil _ _ _) HP.out HONE.out hb1 hb2 ?_)
          intro v1 w1 own1 chg1 hat1
          (try rw [Nat.zero_add, List.nil_append] at own1)
          have hn1 : New w v1 := fun k hk => by
            rcases hat1 with e | e
            · rw [e] at hk; simp [Value.ownBlock] at hk
            · rw [e] at hk; simp at hk; omega
          obtain ⟨a1, k1, rfl⟩ := own_slice own1
          have HO1 := Pal.hid own1
          have HC1 := Pal.hid (chg1.mono (T := []) (by simp [Value.ownBlock]))
          have HN1 := Pal.hid hn1
          have HR2 : Hid (Rd (w1.alloc (.cells #[b64 x] 35)) 1 (.slice (some ⟨w1.heap.size, 0, none⟩) 1 1) 1 [b64 x]) := Pal.hid (Rd.one (m := 1) (c := 1) (sz := 1) (heap_new w1 (.cells #[b64 x] 35)) rfl)
          have hb3 : (l.length + 1) * 8 ≤ 140737488355328 := by omega
          have hb4 : l.length + 1 ≤ maxLen := by unfold maxLen; omega
          clear own1 chg1 hat1 hn1 hb1 hb2
          go_wp2_with (at_builtin; refine wpList_app (v := .slice a1 l.length k1) slU64c rfl _ _ rfl rfl rfl (World.ownsRow.alloc HO1.out _) HR2.out (by intro u hu; simp at hu; subst hu; rfl) hb3 hb4 ?_)
          intro v2 w2 own2 chg2 hat2
          obtain ⟨g, k2, rfl, -⟩ := own_form own2 (by omega)
          have HO2 := Pal.hid own2
          have HC2 : Hid (Chg [] w w2) := Pal.hid ((HC1.out.trans ((Chg.refl [] w1).alloc (.cells #[b64 x] 35)) (by simp)).trans chg2 (fun k hk => .inr (HN1.out k (by simpa using hk))))
          have HG : Hid (w.heap.size ≤ g) := Pal.hid (by
            rcases hat2 with e | e
            · exact HN1.out g e.symm
            · have := HC1.out.size
              simp [Value.ownBlock] at e
              omega)
          have HRC := Pal.hid (HRC0.out w2 HC2.out)
          have hb5 : (l.length + 1 + 0) * 8 ≤ 140737488355328 := by omega
          have hb6 : l.length + 1 + 0 ≤ maxLen := by unfold maxLen; omega
          clear own2 chg2 hat2 hb3 hb4
          go_wp2_with (at_builtin; refine wpList_app (v := .slice (some ⟨g, 0, none⟩) (l.length + 1) k2) (n := l.length + 1) (m := 0) (news := []) slU64c rfl _ _ rfl rfl rfl HO2.out (by first | exact rd_none _ _ _ | simpa using rd_none _ _ _) (by intro u hu; simp at hu) hb5 hb6 ?_)
          intro v3 w3 own3 chg3 hat3
          have HFO : Hid (Own w3 35 1 v3 (l.length + 1) ((l.take l.length ++ x :: l.drop l.length).map b64)) := Pal.hid (by
            have e : l.length + 1 + 0 = l.length + 1 := by omega
            rw [e] at own3
            have e2 : (l.take l.length ++ x :: l.drop l.length).map b64 = (l.map b64).take l.length ++ [b64 x] ++ [] := by
              rw [List.map_append, List.map_cons, List.map_take, List.map_drop]
              simp
            rw [e2]
            first | exact own3 | (rw [List.append_nil]; exact own3) | (rw [List.append_assoc]; exact own3))
          have HFC : Hid (Chg [] w w3) := Pal.hid (HC2.out.trans chg3 (fun k hk => .inr (by simp [Value.ownBlock] at hk; rw [hk]; exact HG.out)))
          have HFN : Hid (New w v3) := Pal.hid (fun k hk => by
            rcases hat3 with e | e
            · rw [e] at hk; simp [Value.ownBlock] at hk; rw [← hk]; exact HG.out
            · rw [e] at hk
              have := HC2.out.size
              simp at hk
              omega)
          obtain ⟨a3, k3, rfl⟩ := own_slice own3
          clear own3 chg3 hat3 hb5 hb6
          go_wp2_with fail
          go_ret
          exact ⟨_, _, rfl, HUI.out.2, HUI.out.1, HFO.out, HFN.out, HFC.out⟩
      · obtain ⟨b0, off0, cap', hv, -, -, hcell⟩ := HRD.out.at (by simp; omega)
        obtain ⟨rfl, rfl⟩ : ao = some ⟨b0, off0, none⟩ ∧ cap' = cap := by simpa [eq_comm] using hv
        have HRC0 : Hid (∀ w2, Chg [] w w2 → Rd w2 1 (.slice (some ⟨b0, off0 + i, none⟩) (l.length - i) (cap' - i)) (l.length - i) ((l.map b64).drop i)) := Pal.hid fun w2 hc => by
          have h8 : Rd w 1 (.slice (some ⟨b0, off0 + i * 1, none⟩) (l.length - i) (cap' - i)) (l.length - i) (((l.map b64).drop (i * 1)).take ((l.length - i) * 1)) := Rd.cut hcell (by simp; omega) (by omega)
          rw [Nat.mul_one, Nat.mul_one, List.take_of_length_le (by simp)] at h8
          exact h8.keep hc (by simp)
        have hlti : (i : Int) < l.length := by omega
        have hlci : (i : Int) < cap' := by omega
        have hne : ¬ i = cap' := by omega
        clear hcell hv
        rcases hex with hz0 | ⟨k, b, off, y, hbb, hx, hxy, hk, hw1, hk0⟩
        rotate_left
        obtain ⟨rfl, rfl⟩ : b0 = b ∧ off0 = off := by simpa using hbb
        clear hbb
        rotate_left
        all_goals
          go_wp2_with (at_builtin; refine wpList_app slU64c rfl _ _ rfl rfl rfl (own_nil _ _ _) HP.out HONE.out hb1 hb2 ?_)
          intro v1 w1 own1 chg1 hat1
          (try rw [Nat.zero_add, List.nil_append] at own1)
          have hn1 : New w v1 := fun k hk => by
            rcases hat1 with e | e
            · rw [e] at hk; simp [Value.ownBlock] at hk
            · rw [e] at hk; simp at hk; omega
          obtain ⟨a1, k1, rfl⟩ := own_slice own1
          have HO1 := Pal.hid own1
          have HC1 := Pal.hid (chg1.mono (T := []) (by simp [Value.ownBlock]))
          have HN1 := Pal.hid hn1
          have HR2 : Hid (Rd (w1.alloc (.cells #[b64 x] 35)) 1 (.slice (some ⟨w1.heap.size, 0, none⟩) 1 1) 1 [b64 x]) := Pal.hid (Rd.one (m := 1) (c := 1) (sz := 1) (heap_new w1 (.cells #[b64 x] 35)) rfl)
          have hb3 : (i + 1) * 8 ≤ 140737488355328 := by omega
          have hb4 : i + 1 ≤ maxLen := by unfold maxLen; omega
          clear own1 chg1 hat1 hn1 hb1 hb2
          go_wp2_with (at_builtin; refine wpList_app (v := .slice a1 i k1) slU64c rfl _ _ rfl rfl rfl (World.ownsRow.alloc HO1.out _) HR2.out (by intro u hu; simp at hu; subst hu; rfl) hb3 hb4 ?_)
          intro v2 w2 own2 chg2 hat2
          obtain ⟨g, k2, rfl, -⟩ := own_form own2 (by omega)
          have HO2 := Pal.hid own2
          have HC2 : Hid (Chg [] w w2) := Pal.hid ((HC1.out.trans ((Chg.refl [] w1).alloc (.cells #[b64 x] 35)) (by simp)).trans chg2 (fun k hk => .inr (HN1.out k (by simpa using hk))))
          have HG : Hid (w.heap.size ≤ g) := Pal.hid (by
            rcases hat2 with e | e
            · exact HN1.out g e.symm
            · have := HC1.out.size
              simp [Value.ownBlock] at e
              omega)
          have HRC := Pal.hid (HRC0.out w2 HC2.out)
          have hb5 : (i + 1 + (l.length - i)) * 8 ≤ 140737488355328 := by omega
          have hb6 : i + 1 + (l.length - i) ≤ maxLen := by unfold maxLen; omega
          clear own2 chg2 hat2 hb3 hb4
          go_wp2_with (at_builtin; refine wpList_app (v := .slice (some ⟨g, 0, none⟩) (i + 1) k2) (n := i + 1) (m := (l.length - i)) (news := (l.map b64).drop i) slU64c rfl _ _ rfl rfl rfl HO2.out (by first | exact HRC.out | simpa using HRC.out) (fun u hu => oneCell_b64l l u (List.mem_of_mem_drop hu)) hb5 hb6 ?_)
          intro v3 w3 own3 chg3 hat3
          have HFO : Hid (Own w3 35 1 v3 (l.length + 1) ((l.take i ++ x :: l.drop i).map b64)) := Pal.hid (by
            have e : i + 1 + (l.length - i) = l.length + 1 := by omega
            rw [e] at own3
            have e2 : (l.take i ++ x :: l.drop i).map b64 = (l.map b64).take i ++ [b64 x] ++ (l.map b64).drop i := by
              rw [List.map_append, List.map_cons, List.map_take, List.map_drop]
              simp
            rw [e2]
            first | exact own3 | (rw [List.append_nil]; exact own3) | (rw [List.append_assoc]; exact own3))
          have HFC : Hid (Chg [] w w3) := Pal.hid (HC2.out.trans chg3 (fun k hk => .inr (by simp [Value.ownBlock] at hk; rw [hk]; exact HG.out)))
          have HFN : Hid (New w v3) := Pal.hid (fun k hk => by
            rcases hat3 with e | e
            · rw [e] at hk; simp [Value.ownBlock] at hk; rw [← hk]; exact HG.out
            · rw [e] at hk
              have := HC2.out.size
              simp at hk
              omega)
          obtain ⟨a3, k3, rfl⟩ := own_slice own3
          clear own3 chg3 hat3 hb5 hb6
          go_wp2_with fail
          go_ret
          exact ⟨_, _, rfl, HUI.out.2, HUI.out.1, HFO.out, HFN.out, HFC.out⟩
end Go.Proofs.Ytjmnmpelbikjjaa
