/- A heap of trees: Pop, Push. -/
import Derived.Test.YtjmnmpelbikjjaaHeapE
set_option linter.unusedVariables false
namespace Go.Proofs.Ytjmnmpelbikjjaa
open Go.RowKit Pal Pal.Hp
theorem slTs : SlT Try.prog 86 87 1 8 := slT_of (z := .pointer none) (by kernel_rfl) (by kernel_rfl) rfl (by decide)
theorem asT (w : World) (v : Value) : Sem.run Try.prog (Instr.typeAssert (.iface 87 v) 20 87 false) w = .ok v w := by kernel_rfl
set_option maxHeartbeats 2000000 in
theorem mpop_ts {w : World} {p g cap : Nat} {L : List Nat} {x : Nat} (h : Hb w p g cap (L ++ [x])) (hn : L.length ≤ 1000) :
    Calls Try.prog 113 #[tp p] w fun e w' => e = .returned (.iface 87 (tp x)) ∧ Hb w' p g cap L ∧ Chg [p] w w' := by
  have hc0 := h.cellp
  have hcx := h.cell (i := L.length) (by simp)
  rw [show (L ++ [x]).getD L.length 0 = x by simp [List.getD_eq_getElem?_getD]] at hcx
  have hf := free_at (i := 0) h.box
  have hle := h.le
  have hown := h.own
  have hbox := h.box
  have hne := h.ne
  rw [List.length_append, List.length_singleton, List.map_append] at hown
  have HOWN := Pal.hid (own_cut hown)
  have HBOX := Pal.hid hbox
  rw [List.length_append, List.length_singleton] at hc0 hle
  clear h hown hbox
  have hplt := lt_heap HBOX.out
  generalize hn' : L.length = n at *
  obtain ⟨n1, hn1⟩ : ∃ n1, n1 = n + 1 := ⟨_, rfl⟩
  rw [← hn1] at hc0 hle
  have hw1 : IntKind.i64.wrap ((n1 : Int) - 1) = (n : Int) := by
    rw [show (n1 : Int) - 1 = (n : Int) by omega]
    exact IntWalk.i64_in _ (by omega)
  have hnn : (n : Int) < n1 := by omega
  have hnc : (n : Int) ≤ cap := by omega
  have HN := Pal.hid hn'
  clear hn' hn1
  go_enter Try.func113, Try.ntmps113
  go_wp2_with fail
  go_ret
  refine ⟨rfl, ⟨?_, ?_, hne⟩, (Chg.refl [p] w).setCell (p := ⟨p, 0, none⟩) (.inl (by simp)) _⟩
  · have := heap_set (i := 0) (u := slT g n cap) HBOX.out
    rw [HN.out]
    exact this
  · rw [HN.out]
    exact own_set_far HOWN.out (p := ⟨p, 0, none⟩) (by simp [Value.ownBlock]; exact fun e => hne e.symm) _
set_option maxHeartbeats 2000000 in
theorem mpush_ts {w : World} {p g cap : Nat} {L : List Nat} {x : Nat} (h : Hb w p g cap L) (hn : L.length ≤ 1000) :
    Calls Try.prog 114 #[tp p, .iface 87 (tp x)] w fun e w' => e = .returned (.tuple #[]) ∧ ∃ g' cap', Hb w' p g' cap' (L ++ [x]) ∧ (g' = g ∨ w.heap.size ≤ g') ∧ Chg [p, g] w w' := by
  have hc0 := h.cellp
  have hf := free_at (i := 0) h.box
  have hle := h.le
  have HOWN := Pal.hid h.own
  have HBOX := Pal.hid h.box
  have hne := h.ne
  have hplt := lt_heap h.box
  clear h
  have has := fun (w : World) (v : Value) => asT w v
  go_enter Try.func114, Try.ntmps114
  go_wp2_with fail
  go_region_law (refine step_app (v := slT g L.length cap) slTs rfl (.tmp 7) (.tmp 10) rfl rfl rfl (own_of (HOWN.out.alloc _) rfl) (Rd.one (heap_new _ _) rfl) (by intro u hu; simp at hu; subst hu; rfl) (by omega) (by unfold maxLen; omega) ?_; intro v2 w2 hown2 hchg2 hat2; obtain ⟨g2, cap2, rfl, hg2⟩ := own_form hown2 (by omega); have q0 := hchg2.heap (heap_old HBOX.out) (by simp [Value.ownBlock]; omega); have q1 := cell_at (i := 0) q0; have q2 := free_at (i := 0) q0; simp at q1; have Q0 := Pal.hid q0; clear q0)
  all_goals
    have hgg : g2 = g ∨ w.heap.size ≤ g2 := by
      rcases hat2 with e | e
      · simp [Value.ownBlock] at e; exact .inl e
      · simp [Value.ownBlock] at e; exact .inr (by omega)
    have hpg : p ≠ g2 := by rcases hgg with e | e <;> omega
    have hch : Chg [p, g] w w2 := by
      have := ((((Chg.refl [] w).alloc (.cells #[tp x] 87)).drew).mono (T := [p, g]) (by simp)).trans hchg2 (fun k hk => .inl (by simp [Value.ownBlock] at hk; simp [hk]))
      exact this
    have HCH := Pal.hid (hch.setCell (p := ⟨p, 0, none⟩) (u := slT g2 (L.length + 1) cap2) (.inl (by simp)))
    have HBX : Hid (Hb (w2.setCell ⟨p, 0, none⟩ (slT g2 (L.length + 1) cap2)) p g2 cap2 (L ++ [x])) := Pal.hid ⟨by
      have := heap_set (i := 0) (u := slT g2 (L.length + 1) cap2) Q0.out
      rw [List.length_append, List.length_singleton]
      exact this, by
      rw [List.length_append, List.length_singleton, List.map_append]
      exact own_set_far hown2 (p := ⟨p, 0, none⟩) (by simp [Value.ownBlock]; exact fun e => hpg e.symm) _, hpg⟩
    go_end0
    exact ⟨rfl, g2, cap2, HBX.out, hgg, HCH.out⟩

/-- The last one of a list. -/
theorem getD_last {L : List Nat} {n : Nat} (h : L.length = n + 1) : L = L.take n ++ [L.getD n 0] := by
  rw [List.getD_eq_getElem?_getD, List.getElem?_eq_getElem (by omega)]
  have := Pal.So.take_step (l := L) (i := n) (by omega)
  rw [List.take_of_length_le (by omega)] at this
  exact this
theorem getD_mem {L : List Nat} {k : Nat} (h : k < L.length) : L.getD k 0 ∈ L := by
  rw [List.getD_eq_getElem?_getD, List.getElem?_eq_getElem h]
  exact List.getElem_mem h
set_option maxHeartbeats 4000000 in
/-- heap.Pop: a least one. -/
theorem pop_ts {w : World} {p g cap : Nat} {L : List Nat} {c : Nat → Nat} (h : Hb w p g cap L) (ht : Tc w p g c L) (hh : Heap L.length 0 (fL c L)) (h2 : 2 ≤ L.length) (hn : L.length ≤ 1000) :
    Calls Try.prog 52 #[ifT p] w fun e w' => ∃ x L', e = .returned (.iface 87 (tp x)) ∧ (x :: L').Perm L ∧ (∀ y ∈ L', c x ≤ c y) ∧ Heap L'.length 0 (fL c L') ∧ Hb w' p g cap L' ∧ Chg [p, g] w w' := by
  obtain ⟨n, hnn⟩ : ∃ n, L.length = n + 1 := ⟨L.length - 1, by omega⟩
  have HH := Pal.hid h
  have HT := Pal.hid ht
  have HHP := Pal.hid hh
  have HNN := Pal.hid hnn
  have hml := h.mLen
  have hms := h.mSwap
  have HLEN := Pal.hid (len_ts w g L.length cap)
  have HSW := Pal.hid (swap_ts h 0 n (by omega) (by omega) (by omega))
  obtain ⟨l, hl⟩ : ∃ l, l = L.length := ⟨_, rfl⟩
  rw [← hl] at hml hms HLEN HSW
  have hn1 : 1 ≤ n := by omega
  have hn2 : n + 1 ≤ 1000 := by omega
  have hw1 : IntKind.i64.wrap ((l : Int) - 1) = (n : Int) := by
    rw [show (l : Int) - 1 = (n : Int) by omega]
    exact IntWalk.i64_in _ (by omega)
  clear h ht hh hnn hl h2 hn
  go_enter Try.func52, Try.ntmps52
  go_wp2_with fail
  go_at_call 109
  refine HLEN.out.mono ?_
  rintro e w2 ⟨rfl, rfl⟩
  clear hml
  go_wp2_with fail
  go_at_call 111
  refine HSW.out.mono ?_
  rintro e w3 ⟨rfl, hb3, hc3⟩
  have hsl : (sL 0 n L).length = n + 1 := by rw [length_sL]; exact HNN.out
  have hdown : Down n 0 0 (fL c (sL 0 n L)) := by
    have hnn := HNN.out
    rw [fL_sL (by omega) (by omega) (by omega)]
    refine ⟨fun q ch _ h1 h2 h3 => ?_, fun q ch _ h1 _ _ => by unfold Ch at h1; omega⟩
    rw [sw_far h1 (by unfold Ch at h2; omega), sw_far (by unfold Ch at h2; omega) (by omega)]
    exact HHP.out q ch (Nat.zero_le _) h2 (by omega)
  have ht3 : Tc w3 p g c (sL 0 n L) := HT.out.keep hc3 (by simp) (fun x hx => (sL_perm (L := L) (i := 0) (j := n) (by omega) (by have := HNN.out; omega)).mem_iff.1 hx)
  have HDN := Pal.hid (down_ts hb3 ht3 0 n (by rw [hsl]; omega) hn1 hdown (by rw [hsl]; exact hn2))
  have HC3 := Pal.hid hc3
  clear hms hb3 hc3 hsl hdown ht3
  go_wp2_with fail
  refine HDN.out.mono ?_
  rintro e w4 ⟨⟨b, rfl⟩, L2, hp2, hk2, hh2, hb2, hc2⟩
  have hl2 : L2.length = n + 1 := by rw [hp2.length_eq, length_sL]; exact HNN.out
  have e2 := getD_last hl2
  have hx : L2.getD n 0 = L.getD 0 0 := by
    rw [hk2 n (Nat.le_refl _), sL_getD (by omega) (by have := HNN.out; omega) (by have := HNN.out; omega), if_neg (by omega), if_pos rfl]
  rw [hx] at e2
  have hperm : L2.Perm L := hp2.trans (sL_perm (by omega) (by have := HNN.out; omega))
  have hb5 := hb2
  rw [e2] at hb5
  have HMP := Pal.hid (mpop_ts hb5 (by simp; omega))
  have HFIN : Hid (((L.getD 0 0) :: L2.take n).Perm L ∧ (∀ y ∈ L2.take n, c (L.getD 0 0) ≤ c y) ∧ Heap (L2.take n).length 0 (fL c (L2.take n))) := by
    refine Pal.hid ⟨?_, ?_, ?_⟩
    · have h5 := hperm
      rw [e2] at h5
      exact (List.perm_append_singleton _ _).symm.trans h5
    · intro y hy
      have hyL : y ∈ L := hperm.mem_iff.1 (List.mem_of_mem_take hy)
      obtain ⟨k, hk, rfl⟩ := List.mem_iff_getElem.1 hyL
      have := heap_min HHP.out k hk
      unfold fL at this
      rw [show L.getD k 0 = L[k] by rw [List.getD_eq_getElem?_getD, List.getElem?_eq_getElem hk]; rfl] at this
      exact this
    · rw [List.length_take, hl2, Nat.min_eq_left (by omega)]
      refine hh2.congr fun k hk => ?_
      unfold fL
      rw [List.getD_eq_getElem?_getD, List.getD_eq_getElem?_getD, List.getElem?_take_of_lt hk]
  have HC5 : Hid (Chg [p, g] w2 w4) := Pal.hid ((HC3.out.mono (T := [p, g]) (by simp)).trans hc2 (fun k hk => .inl (by simp at hk; simp [hk])))
  have hmp := mPop w4 p
  clear hp2 hk2 hh2 hb2 hc2 hl2 e2 hx hperm hb5
  go_wp2_with fail
  go_at_call 113
  refine HMP.out.mono ?_
  rintro e w6 ⟨rfl, hb6, hc6⟩
  have HB6 := Pal.hid hb6
  have HC6 := Pal.hid (HC5.out.trans hc6 (fun k hk => .inl (by simp at hk; simp [hk])))
  clear hmp hb6 hc6
  go_wp2_with fail
  go_ret
  exact ⟨_, _, rfl, HFIN.out.1, HFIN.out.2.1, HFIN.out.2.2, HB6.out, HC6.out⟩
set_option maxHeartbeats 4000000 in
/-- heap.Push. -/
theorem push_ts {w : World} {p g cap : Nat} {L : List Nat} {c : Nat → Nat} {x : Nat} (h : Hb w p g cap L) (ht : Tc w p g c (L ++ [x])) (hg : ∀ y ∈ L ++ [x], y < w.heap.size) (hh : Heap L.length 0 (fL c L)) (hn : L.length < 1000) :
    Calls Try.prog 53 #[ifT p, .iface 87 (tp x)] w fun e w' => e = .returned (.tuple #[]) ∧ ∃ g' cap' L', L'.Perm (L ++ [x]) ∧ Heap L'.length 0 (fL c L') ∧ Hb w' p g' cap' L' ∧ (g' = g ∨ w.heap.size ≤ g') ∧ Chg [p, g] w w' := by
  have HT := Pal.hid ht
  have HHP := Pal.hid hh
  have HG := Pal.hid hg
  have HMP := Pal.hid (mpush_ts (x := x) h (by omega))
  have hmp := mPush w p
  clear h ht hh hg
  go_enter Try.func53, Try.ntmps53
  go_wp2_with fail
  go_at_call 114
  refine HMP.out.mono ?_
  rintro e w2 ⟨rfl, g', cap', hb2, hgg, hc2⟩
  have hml := hb2.mLen
  have HLEN := Pal.hid (len_ts w2 g' (L ++ [x]).length cap')
  have ht2 : Tc w2 p g' c (L ++ [x]) := fun y hy => by
    obtain ⟨h1, h2, h3⟩ := HT.out y hy
    have h4 := HG.out y hy
    exact ⟨h1, by rcases hgg with e | e <;> omega, hc2.cell h3 (by simp; omega)⟩
  have hup : Up (L ++ [x]).length L.length (fL c (L ++ [x])) := by
    have hag : ∀ k, k < L.length → fL c (L ++ [x]) k = fL c L k := fun k hk => by
      unfold fL
      rw [List.getD_eq_getElem?_getD, List.getD_eq_getElem?_getD, List.getElem?_append_left hk]
    refine ⟨fun q ch h1 h2 h3 => ?_, fun q ch h1 h2 h3 => ?_⟩
    · rw [List.length_append, List.length_singleton] at h2
      rw [hag q (by unfold Ch at h1; omega), hag ch (by omega)]
      exact HHP.out q ch (Nat.zero_le _) h1 (by omega)
    · rw [List.length_append, List.length_singleton] at h3
      unfold Ch at h2
      omega
  have HU := Pal.hid (up_ts hb2 ht2 L.length (by simp) hup (by simp; omega))
  have HC2 := Pal.hid hc2
  have HGG := Pal.hid hgg
  obtain ⟨l, hl⟩ : ∃ l, l = (L ++ [x]).length := ⟨_, rfl⟩
  obtain ⟨m, hm⟩ : ∃ m, m = L.length := ⟨_, rfl⟩
  have hlm : l = m + 1 := by rw [hl, hm]; simp
  rw [← hm] at HU
  rw [← hl] at hml HLEN
  have hw1 : IntKind.i64.wrap ((l : Int) - 1) = (m : Int) := by
    rw [show (l : Int) - 1 = (m : Int) by omega]
    exact IntWalk.i64_in _ (by omega)
  clear hmp hb2 hc2 hgg ht2 hup hl hm hlm
  go_wp2_with fail
  go_at_call 109
  refine HLEN.out.mono ?_
  rintro e w3 ⟨rfl, rfl⟩
  clear hml
  go_wp2_with fail
  refine HU.out.mono ?_
  rintro e w4 ⟨rfl, L4, hp4, hh4, hb4, hc4⟩
  have HF : Hid (∃ g' cap' L', List.Perm L' (L ++ [x]) ∧ Heap L'.length 0 (fL c L') ∧ Hb w4 p g' cap' L' ∧ (g' = g ∨ w.heap.size ≤ g') ∧ Chg [p, g] w w4) := Pal.hid ⟨g', cap', L4, hp4, by rw [hp4.length_eq]; exact hh4, hb4, HGG.out, HC2.out.trans hc4 (fun k hk => by
    rcases HGG.out with e | e
    · left; simp at hk; simp [hk, e]
    · right; simp at hk; omega)⟩
  clear hp4 hh4 hb4 hc4
  go_wp2_with fail
  go_end0
  exact ⟨rfl, HF.out⟩
end Go.Proofs.Ytjmnmpelbikjjaa
