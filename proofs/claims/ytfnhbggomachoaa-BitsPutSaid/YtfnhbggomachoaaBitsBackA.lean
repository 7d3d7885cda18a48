/- What the law BitsBack has put, as a list; a Writer and two slices that lie apart; arguments opened as slices that are read. No walk. -/
import Derived.Test.YtfnhbggomachoaaBitsL
import Derived.OpenShut
set_option linter.unusedVariables false
namespace Go.Proofs.Ytfnhbggomachoaa
open Go.RowKit Go.ChangeShapes Go.WideShapes Go.ChangeAt Pal

theorem sl_u64 : SlT Try.prog 71 22 1 8 := slT_of Try.underlying71 (z := .int .u64 0) (by kernel_rfl) rfl (by decide)
theorem sl_int : SlT Try.prog 50 3 1 8 := slT_of Try.underlying50 (z := .int .i64 0) (by kernel_rfl) rfl (by decide)

/-! ### Numbers and their widths -/
def bitsIts (its : List (Nat × Nat)) : List Nat := its.flatMap fun p => bitsOf p.1 p.2
def ItsOk (its : List (Nat × Nat)) : Prop := ∀ p ∈ its, p.2 ≤ 57 ∧ p.1 < 2 ^ p.2

theorem bitsIts_snoc (its : List (Nat × Nat)) (x n : Nat) : bitsIts (its ++ [(x, n)]) = bitsIts its ++ bitsOf x n := by simp [bitsIts]
theorem bitsIts_append (a b : List (Nat × Nat)) : bitsIts (a ++ b) = bitsIts a ++ bitsIts b := by simp [bitsIts]
theorem ItsOk.snoc {its : List (Nat × Nat)} (h : ItsOk its) {x n : Nat} (hn : n ≤ 57) (hx : x < 2 ^ n) : ItsOk (its ++ [(x, n)]) := by
  intro p hp
  rcases List.mem_append.1 hp with hp | hp
  · exact h p hp
  · obtain rfl : p = (x, n) := by simpa using hp
    exact ⟨hn, hx⟩
theorem length_bitsIts {its : List (Nat × Nat)} (h : ItsOk its) : (bitsIts its).length ≤ 57 * its.length := by
  induction its with
  | nil => simp [bitsIts]
  | cons p its ih =>
    have h1 := h p (by simp)
    have h2 := ih fun q hq => h q (by simp [hq])
    have h3 : bitsIts (p :: its) = bitsOf p.1 p.2 ++ bitsIts its := by simp [bitsIts]
    rw [h3, List.length_append, length_bitsOf, List.length_cons]
    omega
theorem isBits_bitsIts (its : List (Nat × Nat)) : IsBits (bitsIts its) := by
  intro x hx
  obtain ⟨p, _, hp⟩ := List.mem_flatMap.1 hx
  exact isBits_bitsOf _ _ x hp

/-- Where the i-th begins. -/
def posIts (its : List (Nat × Nat)) (i : Nat) : Nat := (bitsIts (its.take i)).length

theorem its_at {its : List (Nat × Nat)} (h : ItsOk its) {i : Nat} (hi : i < its.length) (z : List Nat) :
    ∃ x n, its[i]? = some (x, n) ∧ n ≤ 57 ∧ x < 2 ^ n ∧ posIts its (i + 1) = posIts its i + n ∧ posIts its (i + 1) ≤ (bitsIts its).length ∧ numOf (((bitsIts its ++ z).drop (posIts its i)).take n) = x := by
  obtain ⟨⟨x, n⟩, hx⟩ : ∃ p, its[i]? = some p := ⟨_, List.getElem?_eq_getElem hi⟩
  have hm := h _ (List.mem_of_getElem? hx)
  have e1 : its = its.take i ++ (x, n) :: its.drop (i + 1) := by
    have := List.getElem?_eq_some_iff.1 hx
    obtain ⟨h1, h2⟩ := this
    rw [← h2, ← List.drop_eq_getElem_cons, List.take_append_drop]
  have e2 : its.take (i + 1) = its.take i ++ [(x, n)] := by
    rw [List.take_add_one, hx]; rfl
  have e3 : bitsIts its = bitsIts (its.take i) ++ (bitsOf x n ++ bitsIts (its.drop (i + 1))) := by
    have : bitsIts its = bitsIts (its.take i ++ (x, n) :: its.drop (i + 1)) := by rw [← e1]
    rw [this, bitsIts_append]
    simp [bitsIts]
  have e4 : posIts its (i + 1) = posIts its i + n := by
    unfold posIts
    rw [e2, bitsIts_snoc, List.length_append, length_bitsOf]
  refine ⟨x, n, hx, hm.1, hm.2, e4, ?_, ?_⟩
  · rw [e4, e3]
    simp only [List.length_append, length_bitsOf, posIts]
    omega
  · rw [e3, List.append_assoc]
    unfold posIts
    rw [List.drop_left, List.append_assoc, List.take_left' (length_bitsOf _ _), numOf_bitsOf_lt _ _ hm.2]

theorem posIts_end (its : List (Nat × Nat)) {i : Nat} (h : its.length ≤ i) : posIts its i = (bitsIts its).length := by
  unfold posIts
  rw [List.take_of_length_le h]
theorem posIts_zero (its : List (Nat × Nat)) : posIts its 0 = 0 := by simp [posIts, bitsIts]

/-- The bytes that the reader is given. -/
structure BackFacts (L raw bs : List Nat) (z : List Nat) : Prop where
  h8 : (padded L).length % 8 = 0
  hL : (padded L).length ≤ 30000
  hL2 : (padded L ++ bitsOfBytes raw).length ≤ 60000
  ib : IsBytes bs
  eq : bytesOf (padded L ++ bitsOfBytes raw) = bs
  all : bitsOfBytes bs = L ++ z
  len : bs.length = (L.length + 7) / 8 + raw.length
  rest : bs.drop ((L.length + 7) / 8) = raw
  le : bs.length ≤ 60000

theorem back_facts (L raw : List Nat) (hb : IsBits L) (hl : L.length ≤ 22800) (ib : IsBytes raw) (hr : raw.length ≤ 2000) : ∃ bs z, BackFacts L raw bs z := by
  have hpad := padded_bytes L hb
  have hbs : IsBytes (bytesOf L ++ raw) := by
    intro x hx
    rcases List.mem_append.1 hx with h | h
    · exact isBytes_bytesOf _ hb x h
    · exact ib x h
  have hlp : (padded L).length = 8 * ((L.length + 7) / 8) := by rw [hpad, length_bitsOfBytes, length_bytesOf]
  refine ⟨bytesOf L ++ raw, List.replicate ((8 - L.length % 8) % 8) 0 ++ bitsOfBytes raw, by omega, by omega, ?_, hbs, ?_, ?_, ?_, ?_, ?_⟩
  · rw [List.length_append, length_bitsOfBytes]; omega
  · rw [hpad, ← bitsOfBytes_append, bytesOf_bitsOfBytes _ hbs]
  · rw [bitsOfBytes_append, ← hpad, padded, List.append_assoc]
  · rw [List.length_append, length_bytesOf]
  · rw [← length_bytesOf, List.drop_left]
  · rw [List.length_append, length_bytesOf]; omega

/-! ### The width and the number that the law makes -/
theorem width_of (z : Int) : ∃ n : Nat, n ≤ 57 ∧ (wrap64 (z.tmod 58 + 58)).tmod 58 = (n : Int) := by
  have h1 : z.tmod 58 < 58 := Int.tmod_lt_of_pos z (by decide)
  have h2 : -58 < z.tmod 58 := Int.lt_tmod_of_pos z (by decide)
  generalize z.tmod 58 = r at h1 h2
  have h3 : wrap64 (r + 58) = r + 58 := IntWalk.wrap64_in _ (by omega)
  rw [h3, Int.tmod_eq_emod_of_nonneg (by omega)]
  have h4 : 0 ≤ (r + 58) % 58 := Int.emod_nonneg _ (by decide)
  have h5 : (r + 58) % 58 < 58 := Int.emod_lt_of_pos _ (by decide)
  generalize (r + 58) % 58 = q at h4 h5
  obtain ⟨n, rfl⟩ := Int.eq_ofNat_of_zero_le h4
  exact ⟨n, by omega, rfl⟩

theorem shifted (x n : Nat) (hx : x < 18446744073709551616) (h : n ≤ 57) : ∃ X : Nat, (x : Int) / 2 ^ (63 - n) / 2 = (X : Int) ∧ X < 2 ^ n ∧ X < 18446744073709551616 := by
  refine ⟨x / 2 ^ (63 - n) / 2, by rw [cast_shr]; rfl, ?_, ?_⟩
  · rw [Nat.div_div_eq_div_mul, ← Nat.pow_succ, Nat.div_lt_iff_lt_mul (Nat.two_pow_pos _), ← Nat.pow_add, show n + (63 - n + 1) = 64 by omega]
    exact hx
  · have h1 : x / 2 ^ (63 - n) ≤ x := Nat.div_le_self _ _
    omega

/-! ### A Writer and two slices, apart, all new since W -/
structure Back (W w : World) (p : Nat) (g : Option Nat) (L : List Nat) (lv : Value) (n : Nat) (xs : List Value) (kv : Value) (m : Nat) (ys : List Value) : Prop where
  wr : Wr w p g L
  l : Own w 22 1 lv n xs
  k : Own w 3 1 kv m ys
  nl : New W lv
  nk : New W kv
  nw : ∀ b ∈ wfp p g, W.heap.size ≤ b
  lk : ∀ b, lv.ownBlock = some b → kv.ownBlock ≠ some b
  lw : ∀ b, lv.ownBlock = some b → b ∉ wfp p g
  kw : ∀ b, kv.ownBlock = some b → b ∉ wfp p g
  chg : Chg [] W w

section
variable {W w w' : World} {p n m : Nat} {g : Option Nat} {L : List Nat} {lv kv : Value} {xs ys : List Value}

theorem Back.still (h : Back W w p g L lv n xs kv m ys) (hc : Chg [] w w') : Back W w' p g L lv n xs kv m ys :=
  ⟨h.wr.keep hc (by simp), hc.owns h.l (by simp), hc.owns h.k (by simp), h.nl, h.nk, h.nw, h.lk, h.lw, h.kw, h.chg.trans hc (by simp)⟩

theorem Back.appL {lv' : Value} {n' : Nat} {xs' : List Value} (h : Back W w p g L lv n xs kv m ys) (ho : Own w' 22 1 lv' n' xs') (hc : Chg lv.ownBlock.toList w w') (hat : lv'.ownBlock = lv.ownBlock ∨ lv'.ownBlock = some w.heap.size) :
    Back W w' p g L lv' n' xs' kv m ys := by
  refine ⟨h.wr.keep hc (fun b hb hb' => h.lw b (by simpa using hb') hb), ho, hc.owns h.k (fun b hb hb' => h.lk b (by simpa using hb') hb), h.nl.app hat h.chg.size, h.nk, h.nw, ?_, ?_, h.kw, h.chg.onto h.nl hc⟩
  · intro b hb hk
    rcases hat with e | e
    · exact h.lk b (e ▸ hb) hk
    · have := own_lt h.k hk
      rw [e] at hb
      simp at hb
      omega
  · intro b hb hk
    rcases hat with e | e
    · exact h.lw b (e ▸ hb) hk
    · have := h.wr.lt b hk
      rw [e] at hb
      simp at hb
      omega

theorem Back.appK {kv' : Value} {m' : Nat} {ys' : List Value} (h : Back W w p g L lv n xs kv m ys) (ho : Own w' 3 1 kv' m' ys') (hc : Chg kv.ownBlock.toList w w') (hat : kv'.ownBlock = kv.ownBlock ∨ kv'.ownBlock = some w.heap.size) :
    Back W w' p g L lv n xs kv' m' ys' := by
  refine ⟨h.wr.keep hc (fun b hb hb' => h.kw b (by simpa using hb') hb), hc.owns h.l (fun b hb hb' => h.lk b hb (by simpa using hb')), ho, h.nl, h.nk.app hat h.chg.size, h.nw, ?_, h.lw, ?_, h.chg.onto h.nk hc⟩
  · intro b hb hk
    rcases hat with e | e
    · exact h.lk b hb (e ▸ hk)
    · have := own_lt h.l hb
      rw [e] at hk
      simp at hk
      omega
  · intro b hb hk
    rcases hat with e | e
    · exact h.kw b (e ▸ hb) hk
    · have := h.wr.lt b hk
      rw [e] at hb
      simp at hb
      omega

theorem moved_mem {g g' : Option Nat} (hm : Moved w g g') {b : Nat} (hb : b ∈ wfp p g') : b ∈ wfp p g ∨ w.heap.size ≤ b := by
  rcases mem_wfp.1 hb with rfl | hg
  · exact .inl (mem_wfp.2 (.inl rfl))
  · rcases hm with rfl | ⟨c, rfl, hc2⟩
    · exact .inl (mem_wfp.2 (.inr hg))
    · obtain rfl : c = b := by simpa using hg
      exact .inr hc2

theorem Back.stepW {g' : Option Nat} {L' : List Nat} (h : Back W w p g L lv n xs kv m ys) (ha : Wr w' p g' L') (hm : Moved w g g') (hc : Chg (wfp p g) w w') : Back W w' p g' L' lv n xs kv m ys := by
  refine ⟨ha, hc.owns h.l h.lw, hc.owns h.k h.kw, h.nl, h.nk, ?_, h.lk, ?_, ?_, h.chg.trans hc (fun b hb => .inr (h.nw b hb))⟩
  · intro b hb
    rcases moved_mem hm hb with h1 | h1
    · exact h.nw b h1
    · exact Nat.le_trans h.chg.size h1
  · intro b hb hk
    rcases moved_mem hm hk with h1 | h1
    · exact h.lw b hb h1
    · have := own_lt h.l hb; omega
  · intro b hb hk
    rcases moved_mem hm hk with h1 | h1
    · exact h.kw b hb h1
    · have := own_lt h.k hb; omega
end

/-! ### An argument that is a slice of integers -/
theorem open_rd {H : Type} {enc : TypeId × Value → H} {P : Program} {W : World} {base t e : Nat} {k : IntKind} {v : Value} {d : DataW H} {p : List MemPlace} (ht : P.underlying t = some (.slice e)) (he : P.underlying e = some (.int k)) (hc : P.cellsOf e = 1)
    (o : Value.okWide P W .any base t v) (h : DataW.Trod enc P W 0 (fun _ => true) true t v d p) :
    ∃ zs : List Int, Rd W 1 v zs.length (zs.map (.int k)) ∧ (∀ n ∈ zs, (Lit.int k n).wf = true) ∧ zs.length ≤ maxLen := by
  obtain ⟨ao, len, cap, rfl⟩ := okWide_slice ht o
  obtain ⟨fuel, hf⟩ := h
  rcases open_ints ht he hc hf with ⟨hcs, hx⟩ | ⟨a, len', cap', zs, hcs, _, hle, hmax, hall, hx, hcell, hwf⟩
  · simp [Value.cells] at hcs
    obtain ⟨rfl, rfl, rfl⟩ := hcs
    exact ⟨[], ⟨none, 0, rfl, by simp, Nat.le_refl _, fun _ => ⟨rfl, rfl⟩, fun a ha => by cases ha⟩, (fun n hn => by cases hn), by simp⟩
  · simp [Value.cells] at hcs
    obtain ⟨rfl, rfl, rfl⟩ := hcs
    simp at hall
    have hlen : (zs.take len).length = len := by simp; omega
    have hrd : Rd W 1 (.slice (some a) len cap) (zs.take len).length ((zs.take len).map (.int k)) := by
      rw [hlen]
      refine ⟨some a, cap, rfl, by simp; omega, hle, (fun h => by cases h), fun a' ha' j u hu => ?_⟩
      obtain rfl : a = a' := by simpa using ha'
      rw [List.getElem?_map, List.getElem?_take] at hu
      split at hu
      · rw [hcell j (by omega)]
        have hj : j < zs.length := by omega
        simp only [List.getElem?_eq_getElem hj, Option.map_some, Option.some.injEq] at hu
        rw [← hu]
        simp [hj]
      · simp at hu
    exact ⟨zs.take len, hrd, fun n hn => hwf n (List.mem_of_mem_take hn), by omega⟩

end Go.Proofs.Ytfnhbggomachoaa
