/- Numbers that came in. -/
import Derived.Test.YtjmnmpelbikjjaaLawHA
set_option linter.unusedVariables false
namespace Go.Proofs.Ytjmnmpelbikjjaa
open Go.RowKit Go.ChangeShapes Go.WideShapes Go.ChangeAt Pal
theorem open_rd {H : Type} {enc : TypeId × Value → H} {P : Program} {W : World} {base t e : Nat} {k : IntKind} {v : Value} {d : DataW H} {p : List MemPlace} (ht : P.underlying t = some (.slice e)) (he : P.underlying e = some (.int k)) (hc : P.cellsOf e = 1)
    (o : Value.okWide P W .any base t v) (h : DataW.Trod enc P W 0 (fun _ => true) true t v d p) :
    ∃ zs : List Int, Rd W 1 v zs.length (zs.map (.int k)) ∧ (∀ n ∈ zs, (Lit.int k n).wf = true) ∧ zs.length ≤ maxLen := by
  obtain ⟨ao, len, cap, rfl⟩ := okWide_slice ht o
  obtain ⟨fuel, hf⟩ := h
  rcases open_ints ht he hc hf with ⟨hcs, hx⟩ | ⟨a, len', cap', zs, hcs, _, hle, hmax, hall, hx, hcell, hwf⟩
  · simp [Value.cells] at hcs
    obtain ⟨rfl, rfl, rfl⟩ := hcs
    exact ⟨[], ⟨none, 0, rfl, by simp, Nat.le_refl _, fun _ => ⟨rfl, rfl⟩, fun a ha => by cases ha⟩, (fun n hn => by cases hn), by simp⟩
  · simp [Value.cells] at hcs
    obtain ⟨rfl, rfl, rfl⟩ := hcs
    simp at hall
    have hlen : (zs.take len).length = len := by simp; omega
    have hrd : Rd W 1 (.slice (some a) len cap) (zs.take len).length ((zs.take len).map (.int k)) := by
      rw [hlen]
      refine ⟨some a, cap, rfl, by simp; omega, hle, (fun h => by cases h), fun a' ha' j u hu => ?_⟩
      obtain rfl : a = a' := by simpa using ha'
      rw [List.getElem?_map, List.getElem?_take] at hu
      split at hu
      · rw [hcell j (by omega)]
        have hj : j < zs.length := by omega
        simp only [List.getElem?_eq_getElem hj, Option.map_some, Option.some.injEq] at hu
        rw [← hu]
        simp [hj]
      · simp at hu
    exact ⟨zs.take len, hrd, fun n hn => hwf n (List.mem_of_mem_take hn), by omega⟩

/-- Numbers of a kind without a sign. -/
theorem nats_of {k : IntKind} {B : Nat} {zs : List Int} (hw : ∀ n ∈ zs, (Lit.int k n).wf = true) (hk : ∀ n : Int, (Lit.int k n).wf = true → 0 ≤ n ∧ n < B) :
    zs.map (Value.int k) = (zs.map Int.toNat).map (fun n : Nat => Value.int k (n : Int)) ∧ ∀ x ∈ zs.map Int.toNat, x < B := by
  refine ⟨?_, fun x hx => ?_⟩
  · rw [List.map_map]
    refine List.map_congr_left fun n hn => ?_
    have := hk n (hw n hn)
    show Value.int k n = Value.int k (n.toNat : Int)
    rw [Int.toNat_of_nonneg this.1]
  · obtain ⟨n, hn, rfl⟩ := List.mem_map.1 hx
    have := hk n (hw n hn)
    omega
theorem wf_u32 (n : Int) (h : (Lit.int .u32 n).wf = true) : 0 ≤ n ∧ n < (4294967296 : Nat) := by
  simp [Lit.wf, IntKind.min, IntKind.max, IntKind.bits, IntKind.signed] at h
  omega
theorem wf_u8 (n : Int) (h : (Lit.int .u8 n).wf = true) : 0 ≤ n ∧ n < (256 : Nat) := by
  simp [Lit.wf, IntKind.min, IntKind.max, IntKind.bits, IntKind.signed] at h
  omega
end Go.Proofs.Ytjmnmpelbikjjaa
