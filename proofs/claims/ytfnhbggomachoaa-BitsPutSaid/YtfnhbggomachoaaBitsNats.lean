/- Integers that are not below nought, as natural numbers. No walk. -/
import Derived.Test.YtfnhbggomachoaaBase
namespace Go.Proofs.Ytfnhbggomachoaa
theorem nats_of {m : Int} (zs : List Int) (h : ∀ n ∈ zs, (0 : Int) ≤ n ∧ n < m) : ∃ ns : List Nat, zs = ns.map (fun n : Nat => (n : Int)) ∧ ∀ x ∈ ns, (x : Int) < m := by
  refine ⟨zs.map Int.toNat, ?_, ?_⟩
  · rw [List.map_map]
    refine (List.map_id zs).symm.trans (List.map_congr_left fun z hz => ?_)
    exact (Int.toNat_of_nonneg (h z hz).1).symm
  · intro x hx
    obtain ⟨z, hz, rfl⟩ := List.mem_map.1 hx
    have := h z hz
    rw [Int.toNat_of_nonneg this.1]
    exact this.2
end Go.Proofs.Ytfnhbggomachoaa
