/- RegionsPlay: the law's step, whatever the kind. RegionsPlay: nil regions and zero ones. -/
import Derived.Test.YtlmablpekedcfaaRgPn
set_option linter.unusedVariables false
namespace Go.Proofs.Ytlmablpekedcfaa
open Go.RowKit Pal Pal.Rg

theorem step_rg {w : World} {p b q c : Nat} {L : List Reg} (h : Two w p b q c L) (k lv a n t : Int) (l : List Reg) (bs : List Int) (vl vb : Value) (hrl : Rd w 3 vl l.length (regC l)) (hvl : ∀ k, slBlock vl = some k → 0 < l.length → k ≠ p ∧ k ≠ q) (hl : l.length ≤ 40)
    (hrb : Rd w 1 vb bs.length (bs.map z64)) (hbl : bs.length ≤ 40) (ha : -9223372036854775808 ≤ a ∧ a < 9223372036854775808) (hn : -9223372036854775808 ≤ n ∧ n < 9223372036854775808) (ht : -9223372036854775808 ≤ t ∧ t < 9223372036854775808) :
    Calls Try.prog 25 #[.pointer (some ⟨p, 0, none⟩), .pointer (some ⟨q, 0, none⟩), .agg #[z64 k, z64 lv, vl, z64 a, z64 n, z64 t, vb]] w fun e w' => ∃ L' b' c', e = .returned (.bool true) ∧ Two w' p b' q c' L' ∧ Chg [p, q] w w' ∧ (b' = b ∨ w.heap.size ≤ b') ∧ (c' = c ∨ w.heap.size ≤ c') := by
  by_cases k0 : k = 0
  · exact step_put0 h k lv a n t l bs vl vb k0 hrl hvl hl hrb hbl ha hn ht
  by_cases k1 : k = 1
  · exact step_put1 h k lv a n t l bs vl vb k1 hrl hvl hl hrb hbl ha hn ht
  by_cases k2 : k = 2
  · exact step_put2 h k lv a n t l bs vl vb k2 hrl hvl hl hrb hbl ha hn ht
  by_cases k3 : k = 3
  · exact step_take h k lv a n t l bs vl vb k3 hrl hvl hl hrb hbl ha hn ht
  by_cases k4 : k = 4
  · exact step_move h k lv a n t l bs vl vb k4 hrl hvl hl hrb hbl ha hn ht
  by_cases k5 : k = 5
  · exact step_ask h k lv a n t l bs vl vb k5 hrl hvl hl hrb hbl ha hn ht
  by_cases k6 : k = 6
  · exact step_of h k lv a n t l bs vl vb k6 hrl hvl hl hrb hbl ha hn ht
  by_cases k7 : k = 7
  · exact step_first h k lv a n t l bs vl vb k7 hrl hvl hl hrb hbl ha hn ht
  by_cases k8 : k = 8
  · exact step_count h k lv a n t l bs vl vb k8 hrl hvl hl hrb hbl ha hn ht
  by_cases k9 : k = 9
  · exact step_gaps h k lv a n t l bs vl vb k9 hrl hvl hl hrb hbl ha hn ht
  exact step_else h k lv a n t l bs vl vb ⟨k0, k1, k2, k3, k4, k5, k6, k7, k8, k9⟩ hrl hvl hl hrb hbl ha hn ht
end Go.Proofs.Ytlmablpekedcfaa

namespace Go.Proofs.Ytlmablpekedcfaa
open Go.RowKit Pal Pal.Rg

/-- No regions: nil, or zero. -/
def Nn (w : World) (v : Value) : Prop := v = .pointer none ∨ ∃ p, v = .pointer (some ⟨p, 0, none⟩) ∧ w.heap[p]? = some (.cells #[.slice none 0 0, .bool false] 74 (0, 0))
theorem Nn.keep {w w' : World} {v : Value} (h : Nn w v) (hc : Chg [] w w') : Nn w' v := by
  rcases h with rfl | ⟨p, rfl, hp⟩
  · exact .inl rfl
  · exact .inr ⟨p, rfl, hc.heap hp (by simp)⟩
theorem none_nn {w : World} {v : Value} (h : Nn w v) : Calls Try.prog 30 #[v] w fun e w' => e = .returned (.bool true) ∧ w = w' := by
  rcases h with rfl | ⟨p, rfl, hp⟩
  · go_enter Try.func30, Try.ntmps30
    go_wp2
    go_ret
    exact ⟨rfl, rfl⟩
  · have hl := lt_heap hp
    have c1 : w.cell? ⟨p, 1, none⟩ = some (.bool false) := (cell_at (i := 1) hp).trans rfl
    clear hp
    go_enter Try.func30, Try.ntmps30
    go_wp2
    go_ret
    exact ⟨rfl, rfl⟩
set_option maxRecDepth 100000 in
theorem put_nn {w : World} {v : Value} (h : Nn w v) : Calls Try.prog 11 #[v, .slice none 0 0] w fun e w' => e = .returned (.tuple #[z64 0, z64 1]) ∧ w = w' := by
  have HN := Pal.hid (none_nn h)
  go_enter Try.func11, Try.ntmps11
  go_wp2_with fail
  refine HN.out.mono ?_
  rintro e w' ⟨rfl, rfl⟩
  go_wp2_with fail
  go_ret2
  exact ⟨rfl, rfl⟩
set_option maxRecDepth 100000 in
theorem move_nn {w : World} {v : Value} (h : Nn w v) (a t : Int) : Calls Try.prog 24 #[v, z64 a, z64 t] w fun e w' => e = .returned (z64 1) ∧ w = w' := by
  have HN := Pal.hid (none_nn h)
  go_enter Try.func24, Try.ntmps24
  go_wp2_with fail
  refine HN.out.mono ?_
  rintro e w' ⟨rfl, rfl⟩
  go_wp2_with fail
  go_ret
  exact ⟨rfl, rfl⟩
set_option maxRecDepth 100000 in
theorem first_nn {w : World} {v : Value} (h : Nn w v) (a n t : Int) : Calls Try.prog 20 #[v, z64 a, z64 n, z64 t] w fun e w' => e = .returned (.tuple #[z64 0, z64 1]) ∧ w = w' := by
  have HN := Pal.hid (none_nn h)
  go_enter Try.func20, Try.ntmps20
  go_wp2_with fail
  refine HN.out.mono ?_
  rintro e w' ⟨rfl, rfl⟩
  go_wp2_with fail
  go_ret2
  exact ⟨rfl, rfl⟩
set_option maxRecDepth 100000 in
theorem end_nn {w : World} {v : Value} (h : Nn w v) : Calls Try.prog 18 #[v] w fun e w' => e = .returned (z64 0) ∧ w = w' := by
  have HN := Pal.hid (none_nn h)
  go_enter Try.func18, Try.ntmps18
  go_wp2_with fail
  refine HN.out.mono ?_
  rintro e w' ⟨rfl, rfl⟩
  go_wp2_with fail
  go_ret
  exact ⟨rfl, rfl⟩
set_option maxRecDepth 100000 in
theorem copy_nn {w : World} {v : Value} (h : Nn w v) : Calls Try.prog 23 #[v] w fun e w' => e = .returned (.pointer none) ∧ w = w' := by
  have HN := Pal.hid (none_nn h)
  go_enter Try.func23, Try.ntmps23
  go_wp2_with fail
  refine HN.out.mono ?_
  rintro e w' ⟨rfl, rfl⟩
  go_wp2_with fail
  go_ret
  exact ⟨rfl, rfl⟩
set_option maxRecDepth 100000 in
theorem same_nn {w : World} {v u : Value} (h : Nn w v) (g : Nn w u) : Calls Try.prog 21 #[v, u] w fun e w' => e = .returned (.bool true) ∧ w = w' := by
  have HN := Pal.hid (none_nn h)
  have HG := Pal.hid (none_nn g)
  go_enter Try.func21, Try.ntmps21
  go_wp2_with fail
  refine HN.out.mono ?_
  rintro e w' ⟨rfl, rfl⟩
  go_wp2_with fail
  refine HN.out.mono ?_
  rintro e w' ⟨rfl, rfl⟩
  go_wp2_with fail
  refine HG.out.mono ?_
  rintro e w' ⟨rfl, rfl⟩
  go_wp2_with fail
  go_ret
  exact ⟨rfl, rfl⟩
set_option maxRecDepth 100000 in
theorem all_nn {w : World} {v : Value} (h : Nn w v) : Calls Try.prog 16 #[v] w fun e w' => ∃ B b', e = .returned (seqV 56 B) ∧ Seq w' B b' [] ∧ Chg [] w w' ∧ w.heap.size ≤ B ∧ w.heap.size ≤ b' := by
  have HN := Pal.hid (none_nn h)
  go_enter Try.func16, Try.ntmps16
  go_wp2_with fail
  refine HN.out.mono ?_
  rintro e w' ⟨rfl, rfl⟩
  go_wp2_with fail
  refine (values_any none 0 0 _).mono ?_
  rintro e w1 ⟨rfl, hb, hc⟩
  have HB := Pal.hid hb
  have HC := Pal.hid hc
  clear hb hc
  go_wp2_with fail
  go_ret
  have hl := lt_heap HB.out
  exact ⟨w.heap.size, w.heap.size, rfl, ⟨_, HB.out, rd_none _ _, .inl rfl, hl, by simp⟩, HC.out, Nat.le_refl _, Nat.le_refl _⟩
end Go.Proofs.Ytlmablpekedcfaa
