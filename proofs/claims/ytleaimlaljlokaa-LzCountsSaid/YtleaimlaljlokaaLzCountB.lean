/- Contracts over lz: Counts of any tokens. -/
import Derived.Test.YtleaimlaljlokaaLzCntR
set_option linter.unusedVariables false
namespace Go.Proofs.Ytleaimlaljlokaa
open Go.RowKit Go.ChangeShapes Go.WideShapes Go.ChangeAt Pal

set_option maxRecDepth 100000 in
set_option maxHeartbeats 4000000 in
theorem counts_bad (v : Value) (ts : List Tz) (w : World) (hrd : Rd w 3 v ts.length (tzC ts)) (hl : ts.length ≤ 300) (hc : checksCode ts = 2) :
    Calls Try.prog 24 #[v] w fun e w' => e = .returned (.tuple #[.agg (row32 (List.replicate 286 0)), .agg (row32 (List.replicate 30 0)), z64 2]) ∧ Chg [] w w' := by
  have HRD := Pal.hid hrd
  obtain ⟨ao, cap, rfl, _⟩ := hrd
  obtain ⟨z52, s52⟩ := zero_of_info info52
  obtain ⟨z53, s53⟩ := zero_of_info info53
  obtain ⟨A, hl0⟩ : ∃ l, l = List.replicate 286 0 := ⟨_, rfl⟩
  obtain ⟨B, hm0⟩ : ∃ l, l = List.replicate 30 0 := ⟨_, rfl⟩
  rw [← hl0] at z52 ⊢
  rw [← hm0] at z53 ⊢
  have hAl : A.length = 286 := by rw [hl0, List.length_replicate]
  have hBl : B.length = 30 := by rw [hm0, List.length_replicate]
  have s52 := Pal.hid s52
  have s53 := Pal.hid s53
  have HC := Pal.hid hc
  clear hl0 hm0 hc
  go_enter Try.func24, Try.ntmps24
  go_wp2_with fail
  have c0 := ((Chg.refl [] w).alloc (.cells (row32 A) 52)).alloc (.cells (row32 B) 53)
  have n2 := heap_old (o := .cells (row32 B) 53) (heap_new w (.cells (row32 A) 52))
  have n3 := heap_new (w.alloc (.cells (row32 A) 52)) (.cells (row32 B) 53)
  rw [World.size_alloc] at n3
  generalize (w.alloc (.cells (row32 A) 52)).alloc (.cells (row32 B) 53) = w0 at c0 n2 n3 ⊢
  obtain ⟨B3, hB3⟩ : ∃ B, B = w.heap.size + 1 := ⟨_, rfl⟩
  obtain ⟨B2, hB2⟩ : ∃ B, B = w.heap.size := ⟨_, rfl⟩
  rw [← hB3] at n3 ⊢
  rw [← hB2] at n2 ⊢
  have HB2 := Pal.hid hB2
  have HB3 := Pal.hid hB3
  have h23 : ¬ B2 = B3 := by omega
  have h32 : ¬ B3 = B2 := by omega
  clear hB2 hB3 z52 z53
  have hBB : w.heap.size ≤ B2 ∧ w.heap.size ≤ B3 := by rw [HB2.out, HB3.out]; omega
  have hck := checks_any (.slice ao ts.length cap) ts w0 (HRD.out.keep c0 (by simp)) (by omega)
  rw [HC.out] at hck
  refine hck.mono ?_
  clear hck
  rintro e w1 ⟨rfl, hc1⟩
  have c1 := c0.trans hc1 (by simp)
  have n2 := hc1.heap n2 (by simp)
  have n3 := hc1.heap n3 (by simp)
  clear hc1 c0
  go_wp2_with fail
  have n2' : w1.drew.heap[B2]? = some (.cells (row32 A) 52 (0, 0)) := n2
  have n3' : w1.drew.heap[B3]? = some (.cells (row32 B) 53 (0, 0)) := n3
  have kd : Chg [] w w1.drew := c1.drew
  refine wp_region_held_drew (S := fun w' => w'.heap[B2]? = some (.cells (row32 A) 52 (0, 0)) ∧ w'.heap[B3]? = some (.cells (row32 B) 53 (0, 0))) (by kernel_rfl) ⟨n2', n3'⟩ (fun hHeld => ?_)
  generalize w1.drew = W0 at kd n2' n3' hHeld ⊢
  have sA : (Try.prog.info? 52).map (·.size) = some (row32 A).size := by rw [size_row32, hAl]; exact s52.out
  have sB : (Try.prog.info? 53).map (·.size) = some (row32 B).size := by rw [size_row32, hBl]; exact s53.out
  refine Pal.held_take (i := 0) (v := .agg (row32 A)) rfl (by kernel_rfl) (by kernel_rfl) (by kernel_rfl) (fun _ _ _ h => h) (Or.inl ⟨by rfl, fun w' hw' => exec_load_row 52 _ rfl B2 rfl 52 (row32 A) (0, 0) _ hw'.1 under52 rfl sA⟩) hHeld ?_
  (try simp only [Act.put, List.setIfInBounds_toArray, List.set_cons_zero, List.set_cons_succ])
  refine Pal.held_take (i := 1) (v := .agg (row32 B)) rfl (by kernel_rfl) (by kernel_rfl) (by kernel_rfl) (fun _ _ _ h => h) (Or.inl ⟨by rfl, fun w' hw' => exec_load_row 53 _ rfl B3 rfl 53 (row32 B) (0, 0) _ hw'.2 under53 rfl sB⟩) hHeld ?_
  (try simp only [Act.put, List.setIfInBounds_toArray, List.set_cons_zero, List.set_cons_succ])
  refine Pal.held_take (i := 2) (v := ?_) rfl (by kernel_rfl) (by kernel_rfl) (by kernel_rfl) (fun _ _ _ h => h) (Or.inl ⟨by rfl, ?_⟩) hHeld ?_
  rotate_left
  · (intro w hSw; (try dsimp only at hSw); go_simp)
    first | done | with_reducible rfl
  (try simp only [Act.put, List.setIfInBounds_toArray, List.set_cons_zero, List.set_cons_succ])
  refine Pal.held_one (i := 3) rfl (by kernel_rfl) (by rfl) (fun K hK => ?_)
  refine wp_store_row 52 _ _ rfl B2 (row32 A) rfl rfl 52 (row32 A) n2' sA rfl (oneCell_row32 A) ?_
  have q2 := setRow_heap W0 B2 _ (row32 A) _ _ n2'
  have q3 := (setRow_other W0 B2 B3 (row32 A) h32).trans n3'
  have kd2 := kd.setRow (g := B2) (.inr hBB.1) (row32 A)
  generalize W0.setRow B2 (row32 A) = W1 at q2 q3 kd2 ⊢
  have hHeld := And.intro q2 q3
  refine hK.out _ _ hHeld ?_
  clear hK K
  refine Pal.held_one (i := 4) rfl (by kernel_rfl) (by rfl) (fun K hK => ?_)
  refine wp_store_row 53 _ _ rfl B3 (row32 B) rfl rfl 53 (row32 B) q3 sB rfl (oneCell_row32 B) ?_
  have p3 := setRow_heap W1 B3 _ (row32 B) _ _ q3
  have p2 := (setRow_other W1 B3 B2 (row32 B) h23).trans q2
  have kd3 := kd2.setRow (g := B3) (.inr hBB.2) (row32 B)
  generalize W1.setRow B3 (row32 B) = W2 at p2 p3 kd3 ⊢
  have hHeld := And.intro p2 p3
  refine hK.out _ _ hHeld ?_
  clear hK K
  refine Pal.held_take (i := 5) (v := ?_) rfl (by kernel_rfl) (by kernel_rfl) (by kernel_rfl) (fun _ _ _ h => h) (Or.inl ⟨by rfl, ?_⟩) hHeld ?_
  rotate_left
  · (intro w hSw; (try dsimp only at hSw); go_simp)
    first | done | with_reducible rfl
  (try simp only [Act.put, List.setIfInBounds_toArray, List.set_cons_zero, List.set_cons_succ])
  refine wpAnyH_done (by kernel_rfl) ?_ _
  go_wp2_with fail
  refine bodyPost_ret (ret_cct resCounts _ _ B2 B3 52 53 (row32 A) (row32 B) (0, 0) (0, 0) _ _ rfl p2 under52 rfl sA rfl p3 under53 rfl sB rfl) rfl ?_
  exact ⟨rfl, kd3⟩

theorem countsL_spec (ts : List Tk) (p : List Nat × List Nat) (b : Nat) (hA : p.1.length = 286) (hB : p.2.length = 30) (h1 : ∀ x ∈ p.1, x ≤ b) (h2 : ∀ x ∈ p.2, x ≤ b) :
    (ts.foldl cntStep p).1.length = 286 ∧ (ts.foldl cntStep p).2.length = 30 ∧ (∀ x ∈ (ts.foldl cntStep p).1, x ≤ b + ts.length) ∧ ∀ x ∈ (ts.foldl cntStep p).2, x ≤ b + ts.length := by
  induction ts generalizing p b with
  | nil => exact ⟨hA, hB, h1, h2⟩
  | cons t ts ih =>
    rw [List.foldl_cons]
    have : (cntStep p t).1.length = 286 ∧ (cntStep p t).2.length = 30 ∧ (∀ x ∈ (cntStep p t).1, x ≤ b + 1) ∧ ∀ x ∈ (cntStep p t).2, x ≤ b + 1 := by
      unfold cntStep
      split
      · exact ⟨by rw [length_bump]; exact hA, hB, bump_le h1, fun y hy => Nat.le_succ_of_le (h2 y hy)⟩
      · exact ⟨by rw [length_bump]; exact hA, by rw [length_bump]; exact hB, bump_le h1, bump_le h2⟩
    obtain ⟨a1, a2, a3, a4⟩ := ih _ (b + 1) this.1 this.2.1 this.2.2.1 this.2.2.2
    refine ⟨a1, a2, fun x hx => ?_, fun x hx => ?_⟩
    · have := a3 x hx; simp; omega
    · have := a4 x hx; simp; omega

/-- What Counts answers, of any tokens. -/
def countsZ (ts : List Tz) : List Nat × List Nat := if checksCode ts = 0 then countsL (ts.map toTk) else (List.replicate 286 0, List.replicate 30 0)

theorem countsZ_spec (ts : List Tz) (hl : ts.length ≤ 300) : (countsZ ts).1.length = 286 ∧ (countsZ ts).2.length = 30 ∧ (∀ x ∈ (countsZ ts).1, x < 4294967296) ∧ ∀ x ∈ (countsZ ts).2, x < 4294967296 := by
  unfold countsZ
  split
  · obtain ⟨a1, a2, a3, a4⟩ := countsL_spec (ts.map toTk) cnt0 1 (by decide +kernel) (by decide +kernel) (by decide +kernel) (by decide +kernel)
    rw [List.length_map] at a3 a4
    exact ⟨a1, a2, fun x hx => by have := a3 x hx; omega, fun x hx => by have := a4 x hx; omega⟩
  · exact ⟨by rw [List.length_replicate], by rw [List.length_replicate], fun x hx => by rw [(List.mem_replicate.1 hx).2]; omega, fun x hx => by rw [(List.mem_replicate.1 hx).2]; omega⟩

theorem counts_all (v : Value) (ts : List Tz) (w : World) (hrd : Rd w 3 v ts.length (tzC ts)) (hb : ∀ t ∈ ts, t.b < 256) (hl : ts.length ≤ 300) :
    Calls Try.prog 24 #[v] w fun e w' => e = .returned (.tuple #[.agg (row32 (countsZ ts).1), .agg (row32 (countsZ ts).2), z64 (checksCode ts)]) ∧ Chg [] w w' := by
  by_cases hc : checksCode ts = 0
  · have hall := all_of_code hc
    have h := counts_any v (ts.map toTk) w (by rw [List.length_map, toksC_tz, map_back hall.1]; exact hrd) (fun t ht => by
            obtain ⟨x, hx, rfl⟩ := List.mem_map.1 ht
            exact toTk_ok (hall.1 x hx) (hb x hx)) (by rw [List.length_map]; omega)
    rw [countsZ, if_pos hc, hc]
    exact h
  · have hc2 : checksCode ts = 2 := by
      unfold checksCode at hc ⊢
      split
      · rename_i ha
        rw [if_pos ha, if_neg (by omega)] at hc
        exact absurd rfl hc
      · rfl
    rw [countsZ, if_neg hc, hc2]
    exact counts_bad v ts w hrd hl hc2

theorem refCounts_all (v : Value) (ts : List Tz) (w : World) (hrd : Rd w 3 v ts.length (tzC ts)) (hb : ∀ t ∈ ts, t.b < 256) (hl : ts.length ≤ 300) (hc : checksCode ts = 0) :
    Calls Try.prog 25 #[v] w fun e w' => e = .returned (.tuple #[.agg (row32 (countsZ ts).1), .agg (row32 (countsZ ts).2)]) ∧ Chg [] w w' := by
  have hall := all_of_code hc
  have h := refCounts_any v (ts.map toTk) w (by rw [List.length_map, toksC_tz, map_back hall.1]; exact hrd) (fun t ht => by
          obtain ⟨x, hx, rfl⟩ := List.mem_map.1 ht
          exact toTk_ok (hall.1 x hx) (hb x hx)) (by rw [List.length_map]; omega)
  rw [countsZ, if_pos hc]
  exact h
end Go.Proofs.Ytleaimlaljlokaa
