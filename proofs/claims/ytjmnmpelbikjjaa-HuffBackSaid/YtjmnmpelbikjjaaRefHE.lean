/- The document's least cost: with. The document's least cost: the walk. -/
import Derived.Test.YtjmnmpelbikjjaaRefHC
import Derived.Test.YtjmnmpelbikjjaaPmLow
import Derived.Test.YtjmnmpelbikjjaaCodeD
set_option linter.unusedVariables false
namespace Pal
open Go Go.RowKit
/-- The beginning of a slice. -/
theorem Rd.pre {w : World} {sz : Nat} {ao : Option Addr} {n cap m : Nat} {xs : List Value} (h : Rd w sz (.slice ao n cap) n xs) (hm : m ≤ n) : Rd w sz (.slice ao m cap) m (xs.take (m * sz)) := by
  obtain ⟨ao', cap', e, hl, hc, hn, hcell⟩ := h
  simp only [Value.slice.injEq] at e
  obtain ⟨rfl, -, rfl⟩ := e
  have hms : m * sz ≤ n * sz := Nat.mul_le_mul_right _ hm
  refine ⟨_, _, rfl, by rw [List.length_take, hl, Nat.min_eq_left hms], by omega, fun h => ?_, fun a ha j u hu => ?_⟩
  · have := hn h; omega
  · rw [List.getElem?_take] at hu
    split at hu
    · exact hcell a ha j u hu
    · cases hu
theorem rd_zero (w : World) (ao : Option Addr) : Rd w 1 (.slice ao 0 0) 0 [] := ⟨ao, 0, rfl, rfl, Nat.le_refl _, fun _ => ⟨rfl, rfl⟩, fun a _ j u hu => by simp at hu⟩
theorem rd_none (w : World) (a : Addr) (c : Nat) : Rd w 1 (.slice (some a) 0 c) 0 [] := ⟨_, c, rfl, rfl, Nat.zero_le _, (fun h => by cases h), fun a _ j u hu => by simp at hu⟩
end Pal
namespace Go.Proofs.Ytjmnmpelbikjjaa
open Go.RowKit Pal Pal.Hm Pal.Pm
theorem oneCell_b64l (l : List Nat) : ∀ u ∈ l.map b64, u.oneCell' = true := fun u hu => by
  obtain ⟨x, _, rfl⟩ := List.mem_map.1 hu
  rfl
theorem up_ins {l : List Nat} {x at' : Nat} (hu : Up l) (ha : at' ≤ l.length) (h1 : ∀ y ∈ l.take at', y ≤ x) (h2 : ∀ y ∈ l.drop at', x < y) : Up (l.take at' ++ x :: l.drop at') ∧ (l.take at' ++ x :: l.drop at').Perm (x :: l) := by
  refine ⟨?_, ?_⟩
  · have h := hu
    rw [← List.take_append_drop at' l] at h
    obtain ⟨a, b, c⟩ := List.pairwise_append.1 h
    refine List.pairwise_append.2 ⟨a, List.pairwise_cons.2 ⟨fun y hy => Nat.le_of_lt (h2 y hy), b⟩, fun y hy z hz => ?_⟩
    rcases List.mem_cons.1 hz with rfl | hz
    · exact h1 y hy
    · exact c y hy z hz
  · have := List.perm_middle (a := x) (l₁ := l.take at') (l₂ := l.drop at')
    rwa [List.take_append_drop] at this
set_option maxRecDepth 100000 in
set_option maxHeartbeats 4000000 in
theorem with_any {w : World} {v : Value} {l : List Nat} {x : Nat} (hrd : Rd w 1 v l.length (l.map b64)) (hl : l.length ≤ 100000) (hu : Up l) :
    Calls Try.prog 50 #[v, b64 x] w fun e w' => ∃ v' l', e = .returned v' ∧ l'.Perm (x :: l) ∧ Up l' ∧ Own w' 35 1 v' (l.length + 1) (l'.map b64) ∧ New w v' ∧ Chg [] w w' := by
  have HRD := Pal.hid hrd
  have HU := Pal.hid hu
  obtain ⟨ao, cap, rfl, -, hnc, hno, -⟩ := hrd
  have HNO := Pal.hid hno
  clear hu hno
  go_enter Try.func50, Try.ntmps50
  go_wp2_with fail
  go_loopw [5] (fun iv wr => ∃ (i : Nat), iv = z64 i ∧ Hid (i ≤ l.length) ∧ Hid (∀ y ∈ l.drop i, x < y) ∧ w = wr) (fun iv _ => (intOf iv).toNat)
  case atStart => exact ⟨l.length, rfl, Pal.hid (Nat.le_refl _), Pal.hid (by simp), rfl⟩
  case round =>
    obtain ⟨i, rfl, HI, HD, rfl⟩ := hrel
    have hi := HI.out
    by_cases hgo : ∃ k, i = k + 1 ∧ ∃ y, l[k]? = some y ∧ x < y
    · obtain ⟨k, rfl, y, hy, hxy⟩ := hgo
      have hk : k < l.length := by omega
      have hki : (k : Int) < l.length := by omega
      obtain ⟨b, off, cap', hv, -, -, hcell⟩ := HRD.out.at (by simp; omega)
      obtain ⟨rfl, rfl⟩ : ao = some ⟨b, off, none⟩ ∧ cap' = cap := by simpa [eq_comm] using hv
      clear hv
      have hx := hcell k (b64 y) (by rw [List.getElem?_map, hy]; rfl)
      have hw1 : IntKind.i64.wrap (((k + 1 : Nat) : Int) - 1) = (k : Int) := by
        rw [show ((k + 1 : Nat) : Int) - 1 = (k : Int) by omega]
        exact IntWalk.i64_in _ (by omega)
      have hxyi : (x : Int) < y := by omega
      have hk0 : (0 : Int) < ((k + 1 : Nat) : Int) := by omega
      have HD2 : Hid (∀ z ∈ l.drop k, x < z) := Pal.hid (by
        intro z hz
        rw [List.drop_eq_getElem_cons hk] at hz
        rcases List.mem_cons.1 hz with rfl | hz
        · rw [List.getElem?_eq_getElem hk] at hy
          obtain rfl : l[k] = y := by simpa using hy
          exact hxy
        · exact HD.out z hz)
      obtain ⟨k1, hk1⟩ : ∃ k1, k1 = k + 1 := ⟨_, rfl⟩
      rw [← hk1] at hw1 hk0
      rw [← hk1]
      have HK1 := Pal.hid hk1
      clear hcell hy hk1
      go_wp2_with fail
      exact ⟨⟨k, rfl, Pal.hid (by omega), HD2, trivial⟩, by have := HK1.out; simp [intOf]; omega⟩
    · have HS : Hid (∀ y ∈ l.take i, y ≤ x) := Pal.hid (by
        intro y hy
        rcases Nat.eq_zero_or_pos i with rfl | hp
        · simp at hy
        · have hlt : i - 1 < l.length := by omega
          have hm := take_max HU.out hy (List.getElem?_eq_getElem hlt) hi
          have : ¬ x < l[i - 1] := fun h => hgo ⟨i - 1, by omega, l[i - 1], List.getElem?_eq_getElem hlt, h⟩
          omega)
      have hex : ¬ (0 : Int) < (i : Int) ∨ ∃ (k : Nat) (b off y : Nat), ao = some ⟨b, off, none⟩ ∧ w.cell? ⟨b, off + k, none⟩ = some (b64 y) ∧ ¬ (x : Int) < y ∧ (k : Int) < l.length ∧ IntKind.i64.wrap ((i : Int) - 1) = (k : Int) ∧ (0 : Int) < (i : Int) := by
        rcases Nat.eq_zero_or_pos i with rfl | hp
        · exact .inl (by simp)
        · right
          have hlt : i - 1 < l.length := by omega
          obtain ⟨b, off, cap', hv, -, -, hcell⟩ := HRD.out.at (by simp; omega)
          obtain ⟨rfl, rfl⟩ : ao = some ⟨b, off, none⟩ ∧ cap' = cap := by simpa [eq_comm] using hv
          refine ⟨i - 1, b, off, l[i - 1], rfl, hcell (i - 1) _ (by rw [List.getElem?_map, List.getElem?_eq_getElem hlt]; rfl), ?_, by omega, ?_, by omega⟩
          · intro h
            exact hgo ⟨i - 1, by omega, l[i - 1], List.getElem?_eq_getElem hlt, by omega⟩
          · rw [show (i : Int) - 1 = ((i - 1 : Nat) : Int) by omega]
            exact IntWalk.i64_in _ (by omega)
      have HP := Pal.hid (HRD.out.pre hi)
      rw [Nat.mul_one] at HP
      have hii : (i : Int) ≤ l.length := by omega
      have hic : (i : Int) ≤ cap := by omega
      have hli : (l.length : Int) ≤ cap := by omega
      have hb1 : (0 + i) * 8 ≤ 140737488355328 := by omega
      have hb2 : 0 + i ≤ maxLen := by unfold maxLen; omega
      clear hgo
      have HONE : Hid (∀ y ∈ (l.map b64).take i, y.oneCell' = true) := Pal.hid fun u hu => oneCell_b64l l u (List.mem_of_mem_take hu)
      have HUI := Pal.hid (up_ins (x := x) HU.out hi HS.out HD.out)
      have hsp : (i = l.length ∧ cap = l.length) ∨ (i = l.length ∧ l.length < cap) ∨ i < l.length := by omega
      rcases hsp with ⟨rfl, rfl⟩ | ⟨rfl, hlc⟩ | hlt
      · have HRC0 : Hid (∀ w2, Chg [] w w2 → True) := Pal.hid fun _ _ => trivial
        rcases hex with hz0 | ⟨k, b, off, y, rfl, hx, hxy, hk, hw1, hk0⟩
        all_goals
          go_wp2_with (at_builtin; refine wpList_app slU64c rfl _ _ rfl rfl rfl (own_nil _ _ _) HP.out HONE.out hb1 hb2 ?_)
          intro v1 w1 own1 chg1 hat1
          (try rw [Nat.zero_add, List.nil_append] at own1)
          have hn1 : New w v1 := fun k hk => by
            rcases hat1 with e | e
            · rw [e] at hk; simp [Value.ownBlock] at hk
            · rw [e] at hk; simp at hk; omega
          obtain ⟨a1, k1, rfl⟩ := own_slice own1
          have HO1 := Pal.hid own1
          have HC1 := Pal.hid (chg1.mono (T := []) (by simp [Value.ownBlock]))
          have HN1 := Pal.hid hn1
          have HR2 : Hid (Rd (w1.alloc (.cells #[b64 x] 35)) 1 (.slice (some ⟨w1.heap.size, 0, none⟩) 1 1) 1 [b64 x]) := Pal.hid (Rd.one (m := 1) (c := 1) (sz := 1) (heap_new w1 (.cells #[b64 x] 35)) rfl)
          have hb3 : (l.length + 1) * 8 ≤ 140737488355328 := by omega
          have hb4 : l.length + 1 ≤ maxLen := by unfold maxLen; omega
          clear own1 chg1 hat1 hn1 hb1 hb2
          go_wp2_with (at_builtin; refine wpList_app (v := .slice a1 l.length k1) slU64c rfl _ _ rfl rfl rfl (World.ownsRow.alloc HO1.out _) HR2.out (by intro u hu; simp at hu; subst hu; rfl) hb3 hb4 ?_)
          intro v2 w2 own2 chg2 hat2
          obtain ⟨g, k2, rfl, -⟩ := own_form own2 (by omega)
          have HO2 := Pal.hid own2
          have HC2 : Hid (Chg [] w w2) := Pal.hid ((HC1.out.trans ((Chg.refl [] w1).alloc (.cells #[b64 x] 35)) (by simp)).trans chg2 (fun k hk => .inr (HN1.out k (by simpa using hk))))
          have HG : Hid (w.heap.size ≤ g) := Pal.hid (by
            rcases hat2 with e | e
            · exact HN1.out g e.symm
            · have := HC1.out.size
              simp [Value.ownBlock] at e
              omega)
          have HRC := Pal.hid (HRC0.out w2 HC2.out)
          have hb5 : (l.length + 1 + 0) * 8 ≤ 140737488355328 := by omega
          have hb6 : l.length + 1 + 0 ≤ maxLen := by unfold maxLen; omega
          clear own2 chg2 hat2 hb3 hb4
          go_wp2_with (at_builtin; refine wpList_app (v := .slice (some ⟨g, 0, none⟩) (l.length + 1) k2) (n := l.length + 1) (m := 0) (news := []) slU64c rfl _ _ rfl rfl rfl HO2.out (by first | exact rd_zero _ _ | simpa using rd_zero _ _) (by intro u hu; simp at hu) hb5 hb6 ?_)
          intro v3 w3 own3 chg3 hat3
          have HFO : Hid (Own w3 35 1 v3 (l.length + 1) ((l.take l.length ++ x :: l.drop l.length).map b64)) := Pal.hid (by
            have e : l.length + 1 + 0 = l.length + 1 := by omega
            rw [e] at own3
            have e2 : (l.take l.length ++ x :: l.drop l.length).map b64 = (l.map b64).take l.length ++ [b64 x] ++ [] := by
              rw [List.map_append, List.map_cons, List.map_take, List.map_drop]
              simp
            rw [e2]
            first | exact own3 | (rw [List.append_nil]; exact own3) | (rw [List.append_assoc]; exact own3))
          have HFC : Hid (Chg [] w w3) := Pal.hid (HC2.out.trans chg3 (fun k hk => .inr (by simp [Value.ownBlock] at hk; rw [hk]; exact HG.out)))
          have HFN : Hid (New w v3) := Pal.hid (fun k hk => by
            rcases hat3 with e | e
            · rw [e] at hk; simp [Value.ownBlock] at hk; rw [← hk]; exact HG.out
            · rw [e] at hk
              have := HC2.out.size
              simp at hk
              omega)
          obtain ⟨a3, k3, rfl⟩ := own_slice own3
          clear own3 chg3 hat3 hb5 hb6
          go_wp2_with fail
          go_ret
          exact ⟨_, _, rfl, HUI.out.2, HUI.out.1, HFO.out, HFN.out, HFC.out⟩
      · have HRC0 : Hid (∀ w2, Chg [] w w2 → True) := Pal.hid fun _ _ => trivial
        obtain ⟨aa, rfl⟩ : ∃ aa, ao = some aa := by
          cases ao with
          | none => have := HNO.out rfl; omega
          | some aa => exact ⟨aa, rfl⟩
        have hlci : (l.length : Int) < cap := by omega
        have hne : ¬ l.length = cap := by omega
        rcases hex with hz0 | ⟨k, b, off, y, hbb, hx, hxy, hk, hw1, hk0⟩
        rotate_left
        obtain rfl : aa = ⟨b, off, none⟩ := by simpa using hbb
        clear hbb
        rotate_left
        all_goals
          go_wp2_with (at_builtin; refine wpList_app slU64c rfl _ _ rfl rfl rfl (own_nil _ _ _) HP.out HONE.out hb1 hb2 ?_)
          intro v1 w1 own1 chg1 hat1
          (try rw [Nat.zero_add, List.nil_append] at own1)
          have hn1 : New w v1 := fun k hk => by
            rcases hat1 with e | e
            · rw [e] at hk; simp [Value.ownBlock] at hk
            · rw [e] at hk; simp at hk; omega
          obtain ⟨a1, k1, rfl⟩ := own_slice own1
          have HO1 := Pal.hid own1
          have HC1 := Pal.hid (chg1.mono (T := []) (by simp [Value.ownBlock]))
          have HN1 := Pal.hid hn1
          have HR2 : Hid (Rd (w1.alloc (.cells #[b64 x] 35)) 1 (.slice (some ⟨w1.heap.size, 0, none⟩) 1 1) 1 [b64 x]) := Pal.hid (Rd.one (m := 1) (c := 1) (sz := 1) (heap_new w1 (.cells #[b64 x] 35)) rfl)
          have hb3 : (l.length + 1) * 8 ≤ 140737488355328 := by omega
          have hb4 : l.length + 1 ≤ maxLen := by unfold maxLen; omega
          clear own1 chg1 hat1 hn1 hb1 hb2
          go_wp2_with (at_builtin; refine wpList_app (v := .slice a1 l.length k1) slU64c rfl _ _ rfl rfl rfl (World.ownsRow.alloc HO1.out _) HR2.out (by intro u hu; simp at hu; subst hu; rfl) hb3 hb4 ?_)
          intro v2 w2 own2 chg2 hat2
          obtain ⟨g, k2, rfl, -⟩ := own_form own2 (by omega)
          have HO2 := Pal.hid own2
          have HC2 : Hid (Chg [] w w2) := Pal.hid ((HC1.out.trans ((Chg.refl [] w1).alloc (.cells #[b64 x] 35)) (by simp)).trans chg2 (fun k hk => .inr (HN1.out k (by simpa using hk))))
          have HG : Hid (w.heap.size ≤ g) := Pal.hid (by
            rcases hat2 with e | e
            · exact HN1.out g e.symm
            · have := HC1.out.size
              simp [Value.ownBlock] at e
              omega)
          have HRC := Pal.hid (HRC0.out w2 HC2.out)
          have hb5 : (l.length + 1 + 0) * 8 ≤ 140737488355328 := by omega
          have hb6 : l.length + 1 + 0 ≤ maxLen := by unfold maxLen; omega
          clear own2 chg2 hat2 hb3 hb4
          go_wp2_with (at_builtin; refine wpList_app (v := .slice (some ⟨g, 0, none⟩) (l.length + 1) k2) (n := l.length + 1) (m := 0) (news := []) slU64c rfl _ _ rfl rfl rfl HO2.out (by first | exact rd_none _ _ _ | simpa using rd_none _ _ _) (by intro u hu; simp at hu) hb5 hb6 ?_)
          intro v3 w3 own3 chg3 hat3
          have HFO : Hid (Own w3 35 1 v3 (l.length + 1) ((l.take l.length ++ x :: l.drop l.length).map b64)) := Pal.hid (by
            have e : l.length + 1 + 0 = l.length + 1 := by omega
            rw [e] at own3
            have e2 : (l.take l.length ++ x :: l.drop l.length).map b64 = (l.map b64).take l.length ++ [b64 x] ++ [] := by
              rw [List.map_append, List.map_cons, List.map_take, List.map_drop]
              simp
            rw [e2]
            first | exact own3 | (rw [List.append_nil]; exact own3) | (rw [List.append_assoc]; exact own3))
          have HFC : Hid (Chg [] w w3) := Pal.hid (HC2.out.trans chg3 (fun k hk => .inr (by simp [Value.ownBlock] at hk; rw [hk]; exact HG.out)))
          have HFN : Hid (New w v3) := Pal.hid (fun k hk => by
            rcases hat3 with e | e
            · rw [e] at hk; simp [Value.ownBlock] at hk; rw [← hk]; exact HG.out
            · rw [e] at hk
              have := HC2.out.size
              simp at hk
              omega)
          obtain ⟨a3, k3, rfl⟩ := own_slice own3
          clear own3 chg3 hat3 hb5 hb6
          go_wp2_with fail
          go_ret
          exact ⟨_, _, rfl, HUI.out.2, HUI.out.1, HFO.out, HFN.out, HFC.out⟩
      · obtain ⟨b0, off0, cap', hv, -, -, hcell⟩ := HRD.out.at (by simp; omega)
        obtain ⟨rfl, rfl⟩ : ao = some ⟨b0, off0, none⟩ ∧ cap' = cap := by simpa [eq_comm] using hv
        have HRC0 : Hid (∀ w2, Chg [] w w2 → Rd w2 1 (.slice (some ⟨b0, off0 + i, none⟩) (l.length - i) (cap' - i)) (l.length - i) ((l.map b64).drop i)) := Pal.hid fun w2 hc => by
          have h8 : Rd w 1 (.slice (some ⟨b0, off0 + i * 1, none⟩) (l.length - i) (cap' - i)) (l.length - i) (((l.map b64).drop (i * 1)).take ((l.length - i) * 1)) := Rd.cut hcell (by simp; omega) (by omega)
          rw [Nat.mul_one, Nat.mul_one, List.take_of_length_le (by simp)] at h8
          exact h8.keep hc (by simp)
        have hlti : (i : Int) < l.length := by omega
        have hlci : (i : Int) < cap' := by omega
        have hne : ¬ i = cap' := by omega
        clear hcell hv
        rcases hex with hz0 | ⟨k, b, off, y, hbb, hx, hxy, hk, hw1, hk0⟩
        rotate_left
        obtain ⟨rfl, rfl⟩ : b0 = b ∧ off0 = off := by simpa using hbb
        clear hbb
        rotate_left
        all_goals
          go_wp2_with (at_builtin; refine wpList_app slU64c rfl _ _ rfl rfl rfl (own_nil _ _ _) HP.out HONE.out hb1 hb2 ?_)
          intro v1 w1 own1 chg1 hat1
          (try rw [Nat.zero_add, List.nil_append] at own1)
          have hn1 : New w v1 := fun k hk => by
            rcases hat1 with e | e
            · rw [e] at hk; simp [Value.ownBlock] at hk
            · rw [e] at hk; simp at hk; omega
          obtain ⟨a1, k1, rfl⟩ := own_slice own1
          have HO1 := Pal.hid own1
          have HC1 := Pal.hid (chg1.mono (T := []) (by simp [Value.ownBlock]))
          have HN1 := Pal.hid hn1
          have HR2 : Hid (Rd (w1.alloc (.cells #[b64 x] 35)) 1 (.slice (some ⟨w1.heap.size, 0, none⟩) 1 1) 1 [b64 x]) := Pal.hid (Rd.one (m := 1) (c := 1) (sz := 1) (heap_new w1 (.cells #[b64 x] 35)) rfl)
          have hb3 : (i + 1) * 8 ≤ 140737488355328 := by omega
          have hb4 : i + 1 ≤ maxLen := by unfold maxLen; omega
          clear own1 chg1 hat1 hn1 hb1 hb2
          go_wp2_with (at_builtin; refine wpList_app (v := .slice a1 i k1) slU64c rfl _ _ rfl rfl rfl (World.ownsRow.alloc HO1.out _) HR2.out (by intro u hu; simp at hu; subst hu; rfl) hb3 hb4 ?_)
          intro v2 w2 own2 chg2 hat2
          obtain ⟨g, k2, rfl, -⟩ := own_form own2 (by omega)
          have HO2 := Pal.hid own2
          have HC2 : Hid (Chg [] w w2) := Pal.hid ((HC1.out.trans ((Chg.refl [] w1).alloc (.cells #[b64 x] 35)) (by simp)).trans chg2 (fun k hk => .inr (HN1.out k (by simpa using hk))))
          have HG : Hid (w.heap.size ≤ g) := Pal.hid (by
            rcases hat2 with e | e
            · exact HN1.out g e.symm
            · have := HC1.out.size
              simp [Value.ownBlock] at e
              omega)
          have HRC := Pal.hid (HRC0.out w2 HC2.out)
          have hb5 : (i + 1 + (l.length - i)) * 8 ≤ 140737488355328 := by omega
          have hb6 : i + 1 + (l.length - i) ≤ maxLen := by unfold maxLen; omega
          clear own2 chg2 hat2 hb3 hb4
          go_wp2_with (at_builtin; refine wpList_app (v := .slice (some ⟨g, 0, none⟩) (i + 1) k2) (n := i + 1) (m := (l.length - i)) (news := (l.map b64).drop i) slU64c rfl _ _ rfl rfl rfl HO2.out (by first | exact HRC.out | simpa using HRC.out) (fun u hu => oneCell_b64l l u (List.mem_of_mem_drop hu)) hb5 hb6 ?_)
          intro v3 w3 own3 chg3 hat3
          have HFO : Hid (Own w3 35 1 v3 (l.length + 1) ((l.take i ++ x :: l.drop i).map b64)) := Pal.hid (by
            have e : i + 1 + (l.length - i) = l.length + 1 := by omega
            rw [e] at own3
            have e2 : (l.take i ++ x :: l.drop i).map b64 = (l.map b64).take i ++ [b64 x] ++ (l.map b64).drop i := by
              rw [List.map_append, List.map_cons, List.map_take, List.map_drop]
              simp
            rw [e2]
            first | exact own3 | (rw [List.append_nil]; exact own3) | (rw [List.append_assoc]; exact own3))
          have HFC : Hid (Chg [] w w3) := Pal.hid (HC2.out.trans chg3 (fun k hk => .inr (by simp [Value.ownBlock] at hk; rw [hk]; exact HG.out)))
          have HFN : Hid (New w v3) := Pal.hid (fun k hk => by
            rcases hat3 with e | e
            · rw [e] at hk; simp [Value.ownBlock] at hk; rw [← hk]; exact HG.out
            · rw [e] at hk
              have := HC2.out.size
              simp at hk
              omega)
          obtain ⟨a3, k3, rfl⟩ := own_slice own3
          clear own3 chg3 hat3 hb5 hb6
          go_wp2_with fail
          go_ret
          exact ⟨_, _, rfl, HUI.out.2, HUI.out.1, HFO.out, HFN.out, HFC.out⟩
end Go.Proofs.Ytjmnmpelbikjjaa

namespace Pal.Pm
open Pal Pal.Hm
theorem up_unique : ∀ {l m : List Nat}, Up l → Up m → l.Perm m → l = m
  | [], m, _, _, hp => (List.nil_perm.1 hp).symm
  | x :: l, [], _, _, hp => by have := hp.length_eq; simp at this
  | x :: l, y :: m, h1, h2, hp => by
    have hxy : x = y := by
      have a := hp.mem_iff.1 (List.mem_cons_self)
      have b := hp.mem_iff.2 (List.mem_cons_self (a := y) (l := m))
      rcases List.mem_cons.1 a with e | e
      · exact e
      · rcases List.mem_cons.1 b with e2 | e2
        · exact e2.symm
        · have := (List.pairwise_cons.1 h1).1 y e2
          have := (List.pairwise_cons.1 h2).1 x e
          omega
    subst hxy
    rw [up_unique (List.pairwise_cons.1 h1).2 (List.pairwise_cons.1 h2).2 (List.Perm.cons_inv hp)]
theorem pairs_all (l : List Nat) : (pairs l).sum ≤ l.sum := by
  fun_induction pairs l with
  | case1 a b r ih => simp; omega
  | case2 l h => exact Nat.zero_le _
theorem row_sum (b : List Nat) : ∀ k, (row b k).sum ≤ (k + 1) * b.sum
  | 0 => by simp [row]
  | k + 1 => by
    have h1 := row_sum b k
    have h2 := sumPerm (mrg_perm (key := id) b (pairs (row b k)))
    have h3 := pairs_all (row b k)
    rw [List.sum_append] at h2
    rw [row, h2, Nat.succ_mul]
    omega
theorem mem_sum : ∀ {l : List Nat} {x : Nat}, x ∈ l → x ≤ l.sum
  | y :: l, x, h => by
    rcases List.mem_cons.1 h with rfl | h
    · simp
    · have := mem_sum h; simp; omega
theorem row_short (b : List Nat) : ∀ k, (row b k).length ≤ 2 * b.length
  | 0 => by simp [row]; omega
  | k + 1 => by
    have := row_short b k
    rw [row_length]
    omega
theorem take_sum_le (l : List Nat) (i : Nat) : (l.take i).sum ≤ l.sum := by
  conv => rhs; rw [← List.take_append_drop i l, List.sum_append]
  omega
theorem pairs_take_succ {l : List Nat} {j x y : Nat} (hx : l[2 * j]? = some x) (hy : l[2 * j + 1]? = some y) : (pairs l).take (j + 1) = (pairs l).take j ++ [x + y] := by
  have h := pairs_at l j x y hx hy
  have hlt : j < (pairs l).length := (List.getElem?_eq_some_iff.1 h).1
  rw [List.take_succ_eq_append_getElem hlt]
  rw [List.getElem?_eq_getElem hlt] at h
  simp at h
  rw [h]
/-- What the document tells of the least cost. -/
def leastN (most : Nat) (b : List Nat) : Nat := if b.length < 2 then b.sum else ((row b (most - 1)).take (2 * b.length - 2)).sum
end Pal.Pm
namespace Go.Proofs.Ytjmnmpelbikjjaa
open Go.RowKit Pal Pal.Hm Pal.Pm
set_option maxRecDepth 100000 in
set_option maxHeartbeats 4000000 in
theorem refleast_any {w : World} {v : Value} {cs : List Nat} {most : Nat} (hm : 1 ≤ most ∧ most ≤ 320) (hrd : Rd w 1 v cs.length (cs.map b32)) (hcs : ∀ n ∈ cs, n < 4294967296) (hlen : cs.length ≤ 320) (hsome : (leavesAt 0 cs).length ≤ 2 ^ most) :
    Calls Try.prog 22 #[z64 most, v] w fun e w' => ∃ b : List Nat, e = .returned (b64 (leastN most b)) ∧ Up b ∧ b.Perm ((leavesAt 0 cs).map Tr.cnt) ∧ Chg [] w w' := by
  have HRD := Pal.hid hrd
  have HCS := Pal.hid hcs
  have HSM := Pal.hid hsome
  obtain ⟨ao, cap, rfl, -, -, -, -⟩ := hrd
  clear hcs hsome
  go_enter Try.func22, Try.ntmps22
  go_wp2_with fail
  go_loopw [5, 6] (fun bv iv wr => ∃ (i : Nat) (b : List Nat), iv = z64 i ∧ Hid (i ≤ cs.length) ∧ Hid (Up b ∧ b.Perm ((leavesAt 0 (cs.take i)).map Tr.cnt)) ∧ Hid (Own wr 35 1 bv b.length (b.map b64)) ∧ Hid (Chg [] w wr)) (fun _ iv _ => cs.length - (intOf iv).toNat)
  case atStart => exact ⟨0, [], rfl, Pal.hid (Nat.zero_le _), Pal.hid ⟨List.Pairwise.nil, by simp [leavesAt]⟩, Pal.hid (own_nil _ _ _), Pal.hid (Chg.refl _ _)⟩
  case round =>
    obtain ⟨i, b, rfl, HI, HB, HO, HC⟩ := hrel
    have hi := HI.out
    have hbl : b.length ≤ 320 := by
      have h1 := HB.out.2.length_eq
      have h2 := length_leavesAt (cs.take i) 0
      rw [List.length_map] at h1
      rw [List.length_take] at h2
      omega
    by_cases hlt : i < cs.length
    · have hlti : (i : Int) < cs.length := by omega
      obtain ⟨bb, off, cap', hv, -, -, hcell⟩ := HRD.out.at (by simp; omega)
      obtain ⟨rfl, rfl⟩ : ao = some ⟨bb, off, none⟩ ∧ cap' = cap := by simpa [eq_comm] using hv
      clear hv
      have hx := HC.out.cell (hcell i _ (map_at (f := b32) hlt)) (by simp)
      rw [at_nat hlt] at hx
      have hxb := HCS.out _ (List.getElem_mem hlt)
      have hLV : leavesAt 0 (cs.take (i + 1)) = leavesAt 0 (cs.take i) ++ if 0 < cs[i] then [.leaf cs[i] i] else [] := by
        rw [List.take_succ_eq_append_getElem hlt, leavesAt_snoc, List.length_take, Nat.min_eq_left (by omega), Nat.zero_add]
      generalize cs[i] = N at *
      have HLV := Pal.hid hLV
      have hwi : IntKind.i64.wrap ((i : Int) + 1) = ((i + 1 : Nat) : Int) := IntWalk.i64_in _ (by omega)
      by_cases hN : 0 < N
      · have hNi : (0 : Int) < N := by omega
        have HWI := Pal.hid (with_any (x := N) HO.out.rd (by omega) HB.out.1)
        obtain ⟨ba, bc, rfl⟩ := own_slice HO.out
        clear hcell hLV
        go_wp2_with fail
        refine HWI.out.mono ?_
        rintro e w2 ⟨v', l', rfl, hp', hu', ho', hn', hc'⟩
        have hl' : l'.length = b.length + 1 := by rw [hp'.length_eq]; rfl
        have HB2 : Hid (Up l' ∧ l'.Perm ((leavesAt 0 (cs.take (i + 1))).map Tr.cnt)) := Pal.hid ⟨hu', by
          rw [HLV.out, if_pos hN, List.map_append]
          exact hp'.trans (((HB.out.2).cons N).trans (List.perm_append_singleton _ _).symm)⟩
        have HO2 : Hid (Own w2 35 1 v' l'.length (l'.map b64)) := Pal.hid (by rw [hl']; exact ho')
        have HC2 := Pal.hid (HC.out.trans hc' (by simp))
        obtain ⟨va, vc, rfl⟩ := own_slice ho'
        clear hp' hu' ho' hn' hc' hl'
        go_wp2_with fail
        exact ⟨⟨i + 1, l', rfl, Pal.hid (by omega), HB2, HO2, HC2⟩, by simp [intOf]; omega⟩
      · have HB2 : Hid (Up b ∧ b.Perm ((leavesAt 0 (cs.take (i + 1))).map Tr.cnt)) := Pal.hid (by
          rw [hLV, if_neg hN, List.append_nil]
          exact HB.out)
        have hNi : ¬ (0 : Int) < N := by omega
        clear hcell hLV
        go_wp2_with fail
        exact ⟨⟨i + 1, b, rfl, Pal.hid (by omega), HB2, HO, HC⟩, by simp [intOf]; omega⟩
    · have hie : i = cs.length := by omega
      have HBB : Hid (Up b ∧ b.Perm ((leavesAt 0 cs).map Tr.cnt)) := Pal.hid (by have := HB.out; rw [hie, List.take_length] at this; exact this)
      have hlti : ¬ (i : Int) < cs.length := by omega
      obtain ⟨ba, bc, rfl⟩ := own_slice HO.out
      clear hie hlt hi
      by_cases h2 : b.length < 2
      · have h2i : (b.length : Int) < 2 := by omega
        have HE : Hid (leastN most b = b.sum) := Pal.hid (by unfold leastN; rw [if_pos h2])
        by_cases h1 : b.length = 1
        · obtain ⟨x, rfl⟩ := List.length_eq_one_iff.1 h1
          obtain ⟨g, rfl, -⟩ := own_addr HO.out (by simp)
          have hx := own_cell HO.out 0 (u := b64 x) (by simp)
          have HE2 : Hid (leastN most [x] = x) := Pal.hid (by rw [HE.out]; simp)
          go_wp2_with fail
          go_ret
          exact ⟨[x], by rw [HE2.out]; rfl, HBB.out.1, HBB.out.2, HC.out⟩
        · obtain rfl : b = [] := List.eq_nil_of_length_eq_zero (by omega)
          go_wp2_with fail
          go_ret
          exact ⟨[], by rw [HE.out]; rfl, HBB.out.1, HBB.out.2, HC.out⟩
      · have h2i : ¬ (b.length : Int) < 2 := by omega
        have HBS : Hid (b.sum ≤ 320 * 4294967296) := Pal.hid (by
          rw [sumPerm HBB.out.2]
          refine Nat.le_trans (sum_le_len (k := 4294967296) fun t ht => ?_) (Nat.mul_le_mul_right _ (Nat.le_trans (length_leavesAt cs 0) hlen))
          obtain ⟨N, s2, h1, -, -, -, h5⟩ := leavesAt_mem cs 0 t ht
          rw [h1]
          exact Nat.le_of_lt (HCS.out N (List.mem_of_getElem? h5)))
        have HBL : Hid (b.length ≤ 2 ^ most) := Pal.hid (by
          have := HBB.out.2.length_eq
          rw [List.length_map] at this
          rw [this]
          exact HSM.out)
        have HR0 : Hid (row b 0 = b) := Pal.hid rfl
        go_wp2_with fail
        go_loopw [7, 8] (fun rv nv wr => ∃ (k : Nat), nv = z64 ((k + 1 : Nat) : Int) ∧ Hid (k + 1 ≤ most) ∧ Hid (Own wr 35 1 rv (row b k).length ((row b k).map b64)) ∧ Hid (Own wr 35 1 (.slice ba b.length bc) b.length (b.map b64)) ∧ Hid (Chg [] w wr)) (fun _ nv _ => 400 - (intOf nv).toNat)
        case atStart => exact ⟨0, rfl, Pal.hid hm.1, HO, HO, HC⟩
        case round =>
          obtain ⟨k, rfl, HK, HRO, HBO, HCR⟩ := hrel
          have hk := HK.out
          obtain ⟨ra, rc, rfl⟩ := own_slice HRO.out
          have hrs := row_short b k
          have hrsum := row_sum b k
          have hrsum2 : (row b k).sum ≤ 320 * (320 * 4294967296) := Nat.le_trans hrsum (Nat.mul_le_mul (by omega) HBS.out)
          obtain ⟨n, hn⟩ : ∃ n, n = k + 1 := ⟨_, rfl⟩
          have HN := Pal.hid hn
          rw [← hn] at hk
          rw [← hn]
          clear hrsum
          by_cases hlt : n < most
          · have hlti : (n : Int) < most := by omega
            have hwn : IntKind.i64.wrap ((n : Int) + 1) = ((n + 1 : Nat) : Int) := IntWalk.i64_in _ (by omega)
            obtain ⟨R, hR⟩ : ∃ R, R = (row b k).length := ⟨_, rfl⟩
            rw [← hR] at HRO hrs
            rw [← hR]
            have HR := Pal.hid hR
            have HRS := Pal.hid hrsum2
            clear hn hR hrsum2
            go_wp2_with fail
            go_loopw [9, 10] (fun xv iv wr => ∃ (j : Nat) (L : List Nat), iv = z64 ((2 * j : Nat) : Int) ∧ Hid (2 * j ≤ R) ∧ Hid (Up L ∧ L.Perm (b ++ (pairs (row b k)).take j)) ∧ Hid (Own wr 35 1 xv L.length (L.map b64)) ∧ Hid (Own wr 35 1 (.slice ra R rc) R ((row b k).map b64)) ∧ Hid (Own wr 35 1 (.slice ba b.length bc) b.length (b.map b64)) ∧ Hid (Chg [] w wr)) (fun _ iv _ => 2000 - (intOf iv).toNat)
            case atStart => exact ⟨0, b, rfl, Pal.hid (Nat.zero_le _), Pal.hid ⟨HBB.out.1, by simp⟩, HBO, HRO, HBO, HCR⟩
            case round =>
              obtain ⟨j, L, rfl, HJ, HLL, HXO, HRO2, HBO2, HCX⟩ := hrel
              have hj := HJ.out
              obtain ⟨xa, xc, rfl⟩ := own_slice HXO.out
              have hLl : L.length ≤ 2000 := by
                have h1 := HLL.out.2.length_eq
                rw [List.length_append, List.length_take, pairs_length] at h1
                have h3 := HR.out
                omega
              obtain ⟨i2, hi2⟩ : ∃ i2, i2 = 2 * j := ⟨_, rfl⟩
              have HI2 := Pal.hid hi2
              rw [← hi2] at hj
              rw [← hi2]
              have hw1 : IntKind.i64.wrap ((i2 : Int) + 1) = ((i2 + 1 : Nat) : Int) := IntWalk.i64_in _ (by omega)
              have hw2 : IntKind.i64.wrap ((i2 : Int) + 2) = ((i2 + 2 : Nat) : Int) := IntWalk.i64_in _ (by omega)
              obtain ⟨i3, hi3⟩ : ∃ i3, i3 = i2 + 1 := ⟨_, rfl⟩
              rw [← hi3] at hw1
              by_cases hlt2 : i3 < R
              · have hlti2 : (i3 : Int) < R := by omega
                have hlti3 : (i2 : Int) < R := by omega
                obtain ⟨g, rfl, -⟩ := own_addr HRO2.out (by omega)
                have hA : i2 < (row b k).length := by have := HR.out; omega
                have hB : i3 < (row b k).length := by have := HR.out; omega
                have hx := own_cell HRO2.out i2 (u := b64 (row b k)[i2]) (by simp [hA])
                have hy := own_cell HRO2.out i3 (u := b64 (row b k)[i3]) (by simp [hB])
                have HTS : Hid ((pairs (row b k)).take (j + 1) = (pairs (row b k)).take j ++ [(row b k)[i2] + (row b k)[i3]]) := Pal.hid (pairs_take_succ (by rw [← hi2]; exact List.getElem?_eq_getElem hA) (by rw [← hi2, ← hi3]; exact List.getElem?_eq_getElem hB))
                have hxs := mem_sum (List.getElem_mem hA)
                have hys := mem_sum (List.getElem_mem hB)
                have hrsum2 := HRS.out
                generalize (row b k)[i2] = X at *
                generalize (row b k)[i3] = Y at *
                obtain ⟨Z, hZ⟩ : ∃ Z, Z = X + Y := ⟨_, rfl⟩
                have hwZ : IntKind.u64.wrap ((X : Int) + Y) = (Z : Int) := by
                  rw [show (X : Int) + Y = (Z : Int) by omega, wrap_u64, Nat.mod_eq_of_lt (by omega)]
                rw [← hZ] at HTS
                have HWX := Pal.hid fun (wx : World) (hc : Chg [] wr wx) => with_any (x := Z) (Own.rd (hc.owns HXO.out (by simp))) (by omega) HLL.out.1
                have HI3 := Pal.hid hi3
                clear hi2 hi3 hZ hxs hys hrsum2 hA hB
                go_wp2_with fail
                have cd : Chg [] wr wr.drew := (Chg.refl _ wr).drew
                have HS : Hid (∀ wx, Chg [] wr wx → (fun wx => wx.cell? ⟨g, i2, none⟩ = some (b64 X) ∧ wx.cell? ⟨g, i3, none⟩ = some (b64 Y)) wx) := Pal.hid fun wx hc => ⟨hc.cell hx (by simp), hc.cell hy (by simp)⟩
                refine wp_region_held_drew (S := fun wx => wx.cell? ⟨g, i2, none⟩ = some (b64 X) ∧ wx.cell? ⟨g, i3, none⟩ = some (b64 Y)) (by kernel_rfl) (HS.out _ cd) (fun hHeld => ?_)
                generalize wr.drew = wd at cd hHeld ⊢
                refine Pal.held_take (i := 0) (v := ?_) rfl (by kernel_rfl) (by kernel_rfl) (by kernel_rfl) (fun _ _ _ h => h) (Or.inl ⟨by rfl, ?_⟩) hHeld ?_
                rotate_left
                · (intro w hSw; (try dsimp only at hSw); go_simp)
                  first | done | with_reducible rfl
                (try simp only [Act.put, List.setIfInBounds_toArray, List.set_cons_zero, List.set_cons_succ])
                refine Pal.held_take (i := 1) (v := ?_) rfl (by kernel_rfl) (by kernel_rfl) (by kernel_rfl) (fun _ _ _ h => h) (Or.inl ⟨by rfl, ?_⟩) hHeld ?_
                rotate_left
                · (intro w hSw; (try dsimp only at hSw); go_simp)
                  first | done | with_reducible rfl
                (try simp only [Act.put, List.setIfInBounds_toArray, List.set_cons_zero, List.set_cons_succ])
                refine Pal.held_take (i := 2) (v := ?_) rfl (by kernel_rfl) (by kernel_rfl) (by kernel_rfl) (fun _ _ _ h => h) (Or.inl ⟨by rfl, ?_⟩) hHeld ?_
                rotate_left
                · (intro w hSw; (try dsimp only at hSw); go_simp)
                  first | done | with_reducible rfl
                (try simp only [Act.put, List.setIfInBounds_toArray, List.set_cons_zero, List.set_cons_succ])
                refine Pal.held_take (i := 3) (v := ?_) rfl (by kernel_rfl) (by kernel_rfl) (by kernel_rfl) (fun _ _ _ h => h) (Or.inl ⟨by rfl, ?_⟩) hHeld ?_
                rotate_left
                · (intro w hSw; (try dsimp only at hSw); go_simp)
                  first | done | with_reducible rfl
                (try simp only [Act.put, List.setIfInBounds_toArray, List.set_cons_zero, List.set_cons_succ])
                refine Pal.held_take (i := 4) (v := ?_) rfl (by kernel_rfl) (by kernel_rfl) (by kernel_rfl) (fun _ _ _ h => h) (Or.inl ⟨by rfl, ?_⟩) hHeld ?_
                rotate_left
                · (intro w hSw; (try dsimp only at hSw); go_simp)
                  first | done | with_reducible rfl
                (try simp only [Act.put, List.setIfInBounds_toArray, List.set_cons_zero, List.set_cons_succ])
                refine Pal.held_take (i := 5) (v := ?_) rfl (by kernel_rfl) (by kernel_rfl) (by kernel_rfl) (fun _ _ _ h => h) (Or.inl ⟨by rfl, ?_⟩) hHeld ?_
                rotate_left
                · (intro w hSw; (try dsimp only at hSw); go_simp)
                  first | done | with_reducible rfl
                (try simp only [Act.put, List.setIfInBounds_toArray, List.set_cons_zero, List.set_cons_succ])
                refine Pal.held_take (i := 6) (v := ?_) rfl (by kernel_rfl) (by kernel_rfl) (by kernel_rfl) (fun _ _ _ h => h) (Or.inl ⟨by rfl, ?_⟩) hHeld ?_
                rotate_left
                · (intro w hSw; (try dsimp only at hSw); go_simp)
                  first | done | with_reducible rfl
                (try simp only [Act.put, List.setIfInBounds_toArray, List.set_cons_zero, List.set_cons_succ])
                refine Pal.held_take (i := 7) (v := ?_) rfl (by kernel_rfl) (by kernel_rfl) (by kernel_rfl) (fun _ _ _ h => h) (Or.inl ⟨by rfl, ?_⟩) hHeld ?_
                rotate_left
                · (intro w hSw; (try dsimp only at hSw); go_simp)
                  first | done | with_reducible rfl
                (try simp only [Act.put, List.setIfInBounds_toArray, List.set_cons_zero, List.set_cons_succ])
                refine Pal.held_take (i := 8) (v := ?_) rfl (by kernel_rfl) (by kernel_rfl) (by kernel_rfl) (fun _ _ _ h => h) (Or.inl ⟨by rfl, ?_⟩) hHeld ?_
                rotate_left
                · (intro w hSw; (try dsimp only at hSw); go_simp)
                  first | done | with_reducible rfl
                (try simp only [Act.put, List.setIfInBounds_toArray, List.set_cons_zero, List.set_cons_succ])
                refine Pal.held_take (i := 9) (v := ?_) rfl (by kernel_rfl) (by kernel_rfl) (by kernel_rfl) (fun _ _ _ h => h) (Or.inl ⟨by rfl, ?_⟩) hHeld ?_
                rotate_left
                · (intro w hSw; (try dsimp only at hSw); go_simp)
                  first | done | with_reducible rfl
                (try simp only [Act.put, List.setIfInBounds_toArray, List.set_cons_zero, List.set_cons_succ])
                refine Pal.held_take (i := 10) (v := ?_) rfl (by kernel_rfl) (by kernel_rfl) (by kernel_rfl) (fun _ _ _ h => h) (Or.inl ⟨by rfl, ?_⟩) hHeld ?_
                rotate_left
                · (intro w hSw; (try dsimp only at hSw); go_simp)
                  first | done | with_reducible rfl
                (try simp only [Act.put, List.setIfInBounds_toArray, List.set_cons_zero, List.set_cons_succ])
                refine Pal.held_one (i := 11) rfl (by kernel_rfl) (by rfl) (fun K hK => ?_)
                go_simp
                refine (HWX.out _ cd).mono ?_
                rintro e w7 ⟨v', L', rfl, hp', hu', ho', hn', hc'⟩
                have c7 : Chg [] wr w7 := cd.trans hc' (by simp)
                have hHeld := HS.out _ c7
                have hl' : L'.length = L.length + 1 := by rw [hp'.length_eq]; rfl
                have HL2 : Hid (Up L' ∧ L'.Perm (b ++ (pairs (row b k)).take (j + 1))) := Pal.hid ⟨hu', by
                  rw [HTS.out, ← List.append_assoc]
                  exact hp'.trans (((HLL.out.2).cons Z).trans (List.perm_append_singleton _ _).symm)⟩
                have HO2 : Hid (Own w7 35 1 v' L'.length (L'.map b64)) := Pal.hid (by rw [hl']; exact ho')
                have HRN := Pal.hid (c7.owns HRO2.out (by simp))
                have HBN := Pal.hid (c7.owns HBO2.out (by simp))
                have HCN := Pal.hid (HCX.out.trans c7 (by simp))
                obtain ⟨va, vc, rfl⟩ := own_slice ho'
                refine hK.out _ _ hHeld ?_
                clear hK K hp' hu' ho' hn' hc' hl'
                refine Pal.held_take (i := 12) (v := ?_) rfl (by kernel_rfl) (by kernel_rfl) (by kernel_rfl) (fun _ _ _ h => h) (Or.inl ⟨by rfl, ?_⟩) hHeld ?_
                rotate_left
                · (intro w hSw; (try dsimp only at hSw); go_simp)
                  first | done | with_reducible rfl
                (try simp only [Act.put, List.setIfInBounds_toArray, List.set_cons_zero, List.set_cons_succ])
                refine wpAnyH_done (by kernel_rfl) ?_ _
                clear hHeld c7 cd
                go_wp2_with fail
                refine ⟨⟨j + 1, L', ?_, Pal.hid ?_, HL2, HO2, HRN, HBN, HCN⟩, ?_⟩
                · have := HI2.out; simp; omega
                · have := HI2.out; have := HI3.out; omega
                · simp [intOf]; omega
              · have hlti2 : ¬ (i3 : Int) < R := by omega
                have hjj : j = R / 2 := by omega
                have HE : Hid (L = row b (k + 1)) := Pal.hid (by
                  refine up_unique HLL.out.1 (row_up HBB.out.1 (k + 1)) (HLL.out.2.trans ?_)
                  rw [Pal.Pm.row, List.take_of_length_le (by rw [pairs_length, ← HR.out]; omega)]
                  exact (mrg_perm b (pairs (row b k))).symm)
                have HXN : Hid (Own wr 35 1 (.slice xa L.length xc) (row b (k + 1)).length ((row b (k + 1)).map b64)) := Pal.hid (by rw [← HE.out]; exact HXO.out)
                clear hjj hi2 hi3
                go_wp2_with fail
                refine ⟨⟨k + 1, ?_, Pal.hid (by have := HN.out; omega), HXN, HBO2, HCX⟩, ?_⟩
                · have := HN.out; simp; omega
                · have := HN.out; simp [intOf]; omega
          · have hlti : ¬ (n : Int) < most := by omega
            have hkm : k = most - 1 := by omega
            have hroom := row_room b (most - 1) (most - 1) (Nat.le_refl _) (by rw [show most - 1 + 1 = most by omega]; exact HBL.out)
            rw [show most - 1 + 1 - (most - 1) = 1 by omega] at hroom
            subst hkm
            have HLE : Hid (leastN most b = ((row b (most - 1)).take (2 * b.length - 2)).sum) := Pal.hid (by unfold leastN; rw [if_neg h2])
            obtain ⟨T, hT⟩ : ∃ T, T = 2 * b.length - 2 := ⟨_, rfl⟩
            rw [← hT] at HLE
            have hTR : T ≤ (row b (most - 1)).length := by omega
            have hbl3 : b.length ≤ 320 := hbl
            have hwA : IntKind.i64.wrap (2 * (b.length : Int)) = ((2 * b.length : Nat) : Int) := by
              rw [show 2 * (b.length : Int) = ((2 * b.length : Nat) : Int) by omega]
              exact IntWalk.i64_in _ (by omega)
            obtain ⟨B2, hB2⟩ : ∃ B2, B2 = 2 * b.length := ⟨_, rfl⟩
            rw [← hB2] at hwA
            have hwB : IntKind.i64.wrap ((B2 : Int) - 2) = (T : Int) := by
              rw [show (B2 : Int) - 2 = (T : Int) by omega]
              exact IntWalk.i64_in _ (by omega)
            obtain ⟨R, hR⟩ : ∃ R, R = (row b (most - 1)).length := ⟨_, rfl⟩
            rw [← hR] at HRO hrs hTR
            rw [← hR]
            have HR := Pal.hid hR
            have HRS := Pal.hid hrsum2
            have HHT := Pal.hid (⟨hTR, hrs⟩ : T ≤ R ∧ R ≤ 2 * b.length)
            clear hn hR hrsum2 hT hB2 hroom hTR hrs
            go_wp2_with fail
            go_loopw [11, 12] (fun sv iv wr' => ∃ (j q : Nat), iv = z64 j ∧ Hid (j ≤ T) ∧ sv = b64 ((row b (most - 1)).take j).sum ∧ wr' = wr.drewN q) (fun _ iv _ => T - (intOf iv).toNat)
            case atStart => exact ⟨0, 0, rfl, Pal.hid (Nat.zero_le _), rfl, rfl⟩
            case round =>
              obtain ⟨j, q, rfl, HJ, rfl, rfl⟩ := hrel
              have hj := HJ.out
              by_cases hlt2 : j < T
              · have hlti2 : (j : Int) < T := by omega
                have hjR : j < R := by have := HHT.out; omega
                have hlti3 : (j : Int) < R := by omega
                obtain ⟨g, rfl, -⟩ := own_addr HRO.out (by omega)
                have hA : j < (row b (most - 1)).length := by have := HR.out; omega
                have hx := own_cell HRO.out j (u := b64 (row b (most - 1))[j]) (by simp [hA])
                have hts := List.take_succ_eq_append_getElem hA
                have hle := take_sum_le (row b (most - 1)) (j + 1)
                have hrs2 := HRS.out
                generalize (row b (most - 1))[j] = X at *
                obtain ⟨S, hS⟩ : ∃ S, S = ((row b (most - 1)).take j).sum := ⟨_, rfl⟩
                have HTS : Hid (((row b (most - 1)).take (j + 1)).sum = S + X) := Pal.hid (by rw [hts, List.sum_append, hS]; simp)
                rw [HTS.out] at hle
                rw [← hS]
                have hwS : IntKind.u64.wrap ((S : Int) + X) = ((S + X : Nat) : Int) := by
                  rw [show (S : Int) + X = ((S + X : Nat) : Int) by omega, wrap_u64, Nat.mod_eq_of_lt (by omega)]
                have hwj : IntKind.i64.wrap ((j : Int) + 1) = ((j + 1 : Nat) : Int) := IntWalk.i64_in _ (by have := HHT.out; omega)
                clear hts hS hle hrs2 hA
                go_wp2_with fail
                exact ⟨⟨j + 1, q, rfl, Pal.hid (by omega), by rw [HTS.out]; first | rfl | simp, rfl⟩, by simp [intOf]; omega⟩
              · obtain rfl : j = T := by omega
                rw [← HLE.out]
                go_wp2_with fail
                go_ret
                exact ⟨b, rfl, HBB.out.1, HBB.out.2, HCR.out.drewN q⟩
end Go.Proofs.Ytjmnmpelbikjjaa
