/- Contracts over granules: Set, Reset. -/
import Derived.Test.YtbedjjillioaaaaDoorGrE
set_option linter.unusedVariables false
namespace Go.Proofs.YtbedjjillioaaaaDoor
open Go.RowKit Pal Pal.Gr

theorem putFrom_snoc (t : Bool) : ∀ (j g : Nat) (ws : List Nat), putFrom t ws (j + 1) g = put1 t (putFrom t ws j g) (g + j)
  | 0, g, ws => rfl
  | j + 1, g, ws => by
    have := putFrom_snoc t j (g + 1) (put1 t ws g)
    rw [putFrom, this, putFrom, show g + 1 + j = g + (j + 1) by omega]
/-- How many granules, of j from g on, are not t. -/
def chgN (t : Bool) (ws : List Nat) (g : Nat) : Nat → Nat
  | 0 => 0
  | j + 1 => chgN t ws g j + (if bitW ws (g + j) = t then 0 else 1)
theorem chgN_le (t : Bool) (ws : List Nat) (g : Nat) : ∀ j, chgN t ws g j ≤ j
  | 0 => Nat.le_refl _
  | j + 1 => by have := chgN_le t ws g j; rw [chgN]; split <;> omega

/-- A word of a map is stored. -/
theorem gm_store {w : World} {p b size gran : Nat} {ws : List Nat} (h : Gm w p b size gran ws) {g : Nat} (hg : g < manyG size gran) {y : Nat} (hW : Words (ws.set (g / 64) y)) (hc : ∀ h, manyG size gran ≤ h → bitW (ws.set (g / 64) y) h = false) :
    Gm (w.setCell ⟨b, g / 64, none⟩ (b64 y)) p b size gran (ws.set (g / 64) y) := by
  have hpos := h.pos hg
  obtain ⟨cap, h1, h2, h3, h4⟩ := h.row (by omega)
  obtain ⟨v, -, -, -, h5, -, -, h8, h9, h10⟩ := h
  have ho := own_set h2 (g / 64) (b64 y)
  rw [← List.map_set] at ho
  refine ⟨.slice (some ⟨b, 0, none⟩) ws.length cap, heap_set_far h1 (Ne.symm h4), ?_, ⟨by simpa using h3, fun _ => ⟨?_, rfl, h4⟩⟩, by rw [List.length_set]; exact h5, hW, hc, h8, h9, h10⟩
  · rw [List.length_set]; exact ho.rd
  · rw [List.length_set]; exact ho
theorem gm_set1 {w : World} {p b size gran : Nat} {ws : List Nat} (h : Gm w p b size gran ws) {g : Nat} (hg : g < manyG size gran) :
    Gm (w.setCell ⟨b, g / 64, none⟩ (b64 (ws.getD (g / 64) 0 ||| 2 ^ (g % 64)))) p b size gran (setW ws g) := by
  have hpos := h.pos hg
  have h5 := h
  obtain ⟨v, -, -, -, -, hW, hc, -⟩ := h5
  exact gm_store h hg (hW.setW g) (fun k hk => by
    have := bitW_setW hpos k
    unfold setW at this
    rw [this, hc k hk]
    simp
    omega)
theorem gm_reset1 {w : World} {p b size gran : Nat} {ws : List Nat} (h : Gm w p b size gran ws) {g : Nat} (hg : g < manyG size gran) :
    Gm (w.setCell ⟨b, g / 64, none⟩ (b64 (ws.getD (g / 64) 0 ^^^ (ws.getD (g / 64) 0 &&& 2 ^ (g % 64))))) p b size gran (resetW ws g) := by
  have hpos := h.pos hg
  have h5 := h
  obtain ⟨v, -, -, -, -, hW, hc, -⟩ := h5
  exact gm_store h hg (hW.resetW g) (fun k hk => by
    have := bitW_resetW hpos k
    unfold resetW at this
    rw [this, hc k hk]
    simp)

theorem andNot_u64 (X Y : Nat) (hX : X < 18446744073709551616) (hY : Y < 18446744073709551616) : bits BinOp.andNot IntKind.u64 (X : Int) (Y : Int) = ((X ^^^ (X &&& Y) : Nat) : Int) := by
  have h2 : ∀ Z : Nat, Z < 18446744073709551616 → (BitVec.ofInt 64 (Z : Int)).toNat = Z := fun Z hZ => by
    rw [BitVec.ofInt_natCast, BitVec.toNat_ofNat]; exact Nat.mod_eq_of_lt (by omega)
  show IntKind.u64.wrap ((BitVec.ofInt 64 (X : Int) &&& ~~~ BitVec.ofInt 64 (Y : Int)).toNat : Int) = _
  have e : BitVec.ofInt 64 (X : Int) &&& ~~~ BitVec.ofInt 64 (Y : Int) = BitVec.ofInt 64 (X : Int) ^^^ (BitVec.ofInt 64 (X : Int) &&& BitVec.ofInt 64 (Y : Int)) := by
    ext i hi
    simp only [BitVec.getElem_and, BitVec.getElem_not, BitVec.getElem_xor]
    cases (BitVec.ofInt 64 (X : Int))[i] <;> cases (BitVec.ofInt 64 (Y : Int))[i] <;> rfl
  rw [e, BitVec.toNat_xor, BitVec.toNat_and, h2 X hX, h2 Y hY, wrap_u64, Nat.mod_eq_of_lt]
  exact Nat.xor_lt_two_pow (n := 64) hX (Nat.and_lt_two_pow _ hY)

theorem set_no {w : World} {p b size gran : Nat} {ws : List Nat} (h : Gm w p b size gran ws) (at' n : Int) (h0 : askE size at' n ≠ 0 ∨ n = 0) :
    Calls Tryd.prog 24 #[.pointer (some ⟨p, 0, none⟩), z64 at', z64 n] w fun e w' => e = .returned (.tuple #[z64 0, z64 (askE size at' n)]) ∧ w = w' := by
  have hA := Pal.hid (fun (w' : World) (h' : w'.heap = w.heap) => ask_any (h.heap h') at' n)
  generalize askE size at' n = E at *
  by_cases h1 : E = 0
  · subst h1
    obtain rfl : n = 0 := by simpa using h0
    go_enter Tryd.func24, Tryd.ntmps24
    go_wp2_with (first | (go_at_call 51; refine (hA.out _ (by rfl)).mono ?_; rintro e w' ⟨rfl, rfl⟩))
    go_ret2
    exact ⟨rfl, rfl⟩
  · have h2 : (E != 0) = true := by simpa using h1
    go_enter Tryd.func24, Tryd.ntmps24
    go_wp2_with (first | (go_at_call 51; refine (hA.out _ (by rfl)).mono ?_; rintro e w' ⟨rfl, rfl⟩))
    go_ret2
    exact ⟨rfl, rfl⟩

set_option maxRecDepth 100000 in
set_option maxHeartbeats 4000000 in
theorem set_gr {w : World} {p b size gran : Nat} {ws : List Nat} (h : Gm w p b size gran ws) (a n g0 K : Nat) (hn : 0 < n) (han : a + n ≤ size) (hg0 : g0 = a / 2 ^ gran) (hK : g0 + K = (a + n - 1) / 2 ^ gran + 1) :
    Calls Tryd.prog 24 #[.pointer (some ⟨p, 0, none⟩), z64 a, z64 n] w fun e w' => e = .returned (.tuple #[z64 (chgN true ws g0 K), z64 0]) ∧ Gm w' p b size gran (putFrom true ws K g0) ∧ Chg [b] w w' := by
  have hA := Pal.hid (fun (w' : World) (h' : w'.heap = w.heap) => ask_any (h.heap h') (a : Int) (n : Int))
  have hask : askE size a n = 0 := by
    unfold askE
    rw [if_neg (by omega), if_neg (by omega)]
  rw [hask] at hA
  have hlast : (a + n - 1) / 2 ^ gran < manyG size gran := by
    rw [manyG_lt]
    exact Nat.lt_of_le_of_lt (Nat.div_mul_le_self _ _) (by omega)
  have hle : a / 2 ^ gran ≤ (a + n - 1) / 2 ^ gran := Nat.div_le_div_right (by omega)
  have HG := Pal.hid h
  have hml := manyG_le size gran
  obtain ⟨v, hp, -, -, -, -, -, h8, h9, h10⟩ := h
  obtain ⟨P, hP⟩ : ∃ P, P = 2 ^ gran := ⟨_, rfl⟩
  have e1 : (2 : Int) ^ gran = (P : Int) := by rw [hP]; simp
  have hPpos : 0 < P := by rw [hP]; exact Nat.two_pow_pos _
  rw [← hP] at hg0 hK hlast hle
  have HP := Pal.hid hP
  obtain ⟨M, hM⟩ : ∃ M, M = manyG size gran := ⟨_, rfl⟩
  rw [← hM] at hlast hml
  have HM := Pal.hid hM
  obtain ⟨L, hL⟩ : ∃ L, L = (a + n - 1) / P := ⟨_, rfl⟩
  rw [← hL] at hK hlast hle
  rw [← hg0] at hle
  have hsum : IntKind.i64.wrap ((a : Int) + n) = ((a + n : Nat) : Int) := IntWalk.i64_in _ (by omega)
  have hs1 : ((a + n : Nat) : Int) - 1 = ((a + n - 1 : Nat) : Int) := by omega
  have e3 : (((a : Int) + n - 1) / (P : Int)) = (L : Int) := by rw [hL, show ((a : Int) + n - 1) = ((a + n - 1 : Nat) : Int) by omega]; rfl
  have e2 : (a : Int) / (P : Int) = (g0 : Int) := by rw [hg0]; rfl
  have hg0' : ¬ (gran : Int) < 0 := by omega
  have hg : (gran : Int) < 64 := by omega
  have hn0 : ¬ (n : Int) = 0 := by omega
  have hnb : ((n : Int) == 0) = false := by simp; omega
  have hl := lt_heap hp
  clear hp hP hM hL hask hs1
  have HG0 := Pal.hid hg0
  clear hg0
  go_enter Tryd.func24, Tryd.ntmps24
  have c1 : w.cell? ⟨p, 1, none⟩ = some (z64 gran) := by obtain ⟨v, hp, _⟩ := HG.out; exact (cell_at (i := 1) hp).trans rfl
  go_wp2_with (first | (go_at_call 51; refine (hA.out _ (by rfl)).mono ?_; rintro e w' ⟨rfl, rfl⟩))
  clear c1
  go_loopw [9, 10] (fun kv gv wr => ∃ j : Nat, j ≤ K ∧ kv = z64 (chgN true ws g0 j) ∧ gv = z64 (g0 + j : Nat) ∧ Gm wr p b size gran (putFrom true ws j g0) ∧ Chg [b] w wr) (fun _ gv _ => L + 1 - (intOf gv).toNat)
  case atStart => exact ⟨0, Nat.zero_le _, rfl, rfl, HG.out, Chg.refl _ _⟩
  case round =>
    obtain ⟨j, hj, rfl, rfl, hgm, hch⟩ := hrel
    have HGM := Pal.hid hgm
    have hwl := Nat.lt_of_lt_of_le hl hch.size
    have c1 : wr.cell? ⟨p, 1, none⟩ = some (z64 gran) := by obtain ⟨v, hp, _⟩ := hgm; exact (cell_at (i := 1) hp).trans rfl
    have hcn := chgN_le true ws g0 j
    by_cases hjK : j < K
    · have hle2 : ((g0 + j : Nat) : Int) ≤ (L : Int) := by omega
      have hgM : g0 + j < M := by omega
      have hD := Pal.hid (fun (w' : World) (h' : w'.heap = wr.heap) => dirty_any (hgm.heap h') (g0 + j) (by rw [← HM.out]; exact hgM))
      have hposn : ∀ i, i < g0 + j + 1 → i / 64 < ws.length := fun i hi => by
        have := HG.out.pos (g := i) (by rw [← HM.out]; omega)
        exact this
      have hbit : Hid (bitW (putFrom true ws j g0) (g0 + j) = bitW ws (g0 + j)) := by
        show _ = _
        rw [putFrom_bit true j g0 ws (fun i hi => hposn i (by omega)), if_neg (by omega)]
      rw [hbit.out] at hD
      have HS := Pal.hid (putFrom_snoc true j g0 ws)
      have HC : Hid (chgN true ws g0 (j + 1) = chgN true ws g0 j + (if bitW ws (g0 + j) = true then 0 else 1)) := show _ = _ from rfl
      have hw1 : IntKind.i64.wrap ((g0 + j : Nat) + 1 : Int) = ((g0 + j + 1 : Nat) : Int) := IntWalk.i64_in _ (by omega)
      by_cases hb : bitW ws (g0 + j) = true
      · rw [hb] at hD
        have HC2 : Hid (chgN true ws g0 (j + 1) = chgN true ws g0 j) := by show _ = _; rw [HC.out, if_pos hb]; rfl
        have HS2 : Hid (putFrom true ws (j + 1) g0 = putFrom true ws j g0) := by show _ = _; rw [HS.out, put1, if_pos (hbit.out.trans hb)]
        clear hb hgm hposn
        obtain ⟨G, hG⟩ : ∃ G, G = g0 + j := ⟨_, rfl⟩
        rw [← hG] at hD hle2 hgM hw1 ⊢
        have HGe := Pal.hid hG
        clear hG
        go_wp2_with (first | (go_at_call 39; refine (hD.out _ (by rfl)).mono ?_; rintro e w' ⟨rfl, rfl⟩))
        go_roundw
        case rel => exact ⟨j + 1, by omega, by rw [HC2.out], by rw [show g0 + (j + 1) = G + 1 by have := HGe.out; omega]; rfl, by rw [HS2.out]; exact HGM.out, hch⟩
        case measure => simp [intOf]; omega
      · have hb : bitW ws (g0 + j) = false := by simpa using hb
        rw [hb] at hD
        have HC2 : Hid (chgN true ws g0 (j + 1) = chgN true ws g0 j + 1) := by show _ = _; rw [HC.out, if_neg (by rw [hb]; simp)]
        have HS2 : Hid (putFrom true ws (j + 1) g0 = setW (putFrom true ws j g0) (g0 + j)) := by show _ = _; rw [HS.out, put1, if_neg (by rw [hbit.out, hb]; simp), if_pos rfl]
        have hwl2 := putFrom_length true j g0 ws
        have hQpos := hposn (g0 + j) (by omega)
        obtain ⟨cap, hp, hown, hbl, hbp⟩ := hgm.row (by omega)
        have HSET := Pal.hid (fun (w' : World) (h' : w'.heap = wr.heap) => gm_set1 (hgm.heap h') (g := g0 + j) (by rw [← HM.out]; exact hgM))
        have hX64 : (putFrom true ws j g0).getD ((g0 + j) / 64) 0 < 18446744073709551616 := by
          obtain ⟨v, -, -, -, -, hW, -⟩ := hgm
          exact hW.getD _
        obtain ⟨G, hG⟩ : ∃ G, G = g0 + j := ⟨_, rfl⟩
        rw [← hG] at hD hle2 hgM hw1 HSET hX64 hQpos HS2 ⊢
        have HGe := Pal.hid hG
        obtain ⟨X, hX⟩ : ∃ X, X = (putFrom true ws j g0).getD (G / 64) 0 := ⟨_, rfl⟩
        rw [← hX] at HSET hX64
        have c2 : wr.cell? ⟨p, 2, none⟩ = some (.slice (some ⟨b, 0, none⟩) (putFrom true ws j g0).length cap) := (cell_at (i := 2) hp).trans rfl
        have cw := own_cell hown (G / 64) (u := b64 X) (by rw [hX]; exact map_at (by rw [hwl2]; exact hQpos))
        have fw := own_free hown (G / 64)
        rw [hwl2] at c2
        have q1 : Int.tdiv (G : Int) 64 = ((G / 64 : Nat) : Int) := rfl
        have q2 : (G : Int) / 64 = ((G / 64 : Nat) : Int) := rfl
        have q3 : Int.tmod (G : Int) 64 = ((G % 64 : Nat) : Int) := rfl
        have q4 : (G : Int) % 64 = ((G % 64 : Nat) : Int) := rfl
        have hr64 : G % 64 < 64 := Nat.mod_lt _ (by decide)
        have hpw : 2 ^ (G % 64) < 18446744073709551616 := by
          have := Nat.pow_lt_pow_right (a := 2) (by decide) hr64
          simpa using this
        have hor := bits_or X (2 ^ (G % 64)) hX64 hpw
        have hsh : IntKind.u64.wrap ((2 : Int) ^ (G % 64)) = ((2 ^ (G % 64) : Nat) : Int) := by
          rw [show (2 : Int) ^ (G % 64) = ((2 ^ (G % 64) : Nat) : Int) by simp, wrap_u64, Nat.mod_eq_of_lt hpw]
        have hcnw : IntKind.i64.wrap ((chgN true ws g0 j : Int) + 1) = ((chgN true ws g0 j + 1 : Nat) : Int) := IntWalk.i64_in _ (by omega)
        generalize 2 ^ (G % 64) = PW at hor hsh hpw HSET
        generalize G / 64 = Q at q1 q2 cw fw hQpos HSET
        generalize G % 64 = r at q3 q4 hsh hr64
        generalize X ||| PW = XW at hor HSET
        generalize chgN true ws g0 j = c at hcnw hcn HC2
        have q5 : IntKind.i64.wrap (Q : Int) = (Q : Int) := IntWalk.i64_in _ (by omega)
        have hQl : (Q : Int) < ws.length := by omega
        clear hb hgm hposn hp hown hX hwl2 hG
        go_wp2_with (first | (go_at_call 39; refine (hD.out _ (by rfl)).mono ?_; rintro e w' ⟨rfl, rfl⟩))
        go_region
        go_wp2_with fail
        refine ⟨⟨j + 1, by omega, by rw [HC2.out]; rfl, by rw [show g0 + (j + 1) = G + 1 by have := HGe.out; omega]; rfl, by rw [HS2.out]; exact (HSET.out wr rfl).heap rfl, (hch.setCell (p := ⟨b, Q, none⟩) (.inl (by simp)) _).drew⟩, by simp [intOf]; omega⟩
    · obtain rfl : j = K := by omega
      have hle2 : ¬ ((g0 + j : Nat) : Int) ≤ (L : Int) := by omega
      clear hgm
      go_wp2_with fail
      go_ret2
      exact ⟨rfl, HGM.out, hch⟩
end Go.Proofs.YtbedjjillioaaaaDoor
