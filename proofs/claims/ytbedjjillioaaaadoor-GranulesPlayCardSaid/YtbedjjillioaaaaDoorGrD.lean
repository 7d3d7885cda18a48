/- Contracts over granules: Next. -/
import Derived.Test.YtbedjjillioaaaaDoorGrC
import Derived.WalkMore
import Derived.ScopeJumps
set_option linter.unusedVariables false
namespace Go.Proofs.YtbedjjillioaaaaDoor
open Go.RowKit Pal Pal.Gr

def nextV : Option Nat → Value
  | none => .tuple #[z64 0, .bool false]
  | some g => .tuple #[z64 g, .bool true]

theorem shr_i64 (X R : Nat) : (X : Int) / 2 ^ R = ((X >>> R : Nat) : Int) := by
  rw [Nat.shiftRight_eq_div_pow]; simp

theorem not_u64 (X : Nat) (h : X < 18446744073709551616) : bits BinOp.xor IntKind.u64 IntKind.u64.max (X : Int) = ((18446744073709551615 - X : Nat) : Int) := by
  have h1 : BitVec.ofInt 64 IntKind.u64.max = BitVec.allOnes 64 := by decide
  have h2 : (BitVec.ofInt 64 (X : Int)).toNat = X := by
    rw [BitVec.ofInt_natCast, BitVec.toNat_ofNat]; exact Nat.mod_eq_of_lt (by omega)
  show IntKind.u64.wrap ((BitVec.ofInt 64 IntKind.u64.max ^^^ BitVec.ofInt 64 (X : Int)).toNat : Int) = _
  rw [h1, BitVec.allOnes_xor, BitVec.toNat_not, h2, wrap_u64]
  congr 1
  omega

set_option maxRecDepth 100000 in
set_option maxHeartbeats 4000000 in
theorem next_gr {w : World} {p b size gran : Nat} {ws : List Nat} (h : Gm w p b size gran ws) (hT : Tab w) (from' : Int) (which : Bool) :
    Calls Tryd.prog 12 #[.pointer (some ⟨p, 0, none⟩), z64 from', .bool which] w fun e w' => e = .returned (nextV (nextW ws (manyG size gran) which from'.toNat)) ∧ ∃ n, w' = w.drewN n := by
  have hN := Pal.hid (fun (w' : World) (h' : w'.heap = w.heap) => none_no (h.heap h'))
  have hM := Pal.hid (fun (w' : World) (h' : w'.heap = w.heap) => manyM_any (h.heap h'))
  have H := Pal.hid h
  have hml := manyG_le size gran
  obtain ⟨_, -, -, -, -, hW, -, h8, h9, h10⟩ := h
  have HW := Pal.hid hW
  clear hW
  generalize hMM : manyG size gran = M at *
  have hMM := Pal.hid hMM
  by_cases hfr : (M : Int) ≤ from'
  · have hr : Hid (nextV (nextW ws M which from'.toNat) = .tuple #[z64 0, .bool false]) := by
      show _ = _
      rw [nextW_end (by omega)]
      rfl
    go_enter Tryd.func12, Tryd.ntmps12
    go_wp2_with fail
    go_step3
    go_wp2_with (first | (go_at_call 35; refine (hN.out _ (by rfl)).mono ?_; rintro e w' ⟨rfl, rfl⟩) | (go_at_call 37; refine (hM.out _ (by rfl)).mono ?_; rintro e w' ⟨rfl, nm, rfl⟩))
    rw [Exit.noGoto_ret]
    go_ret2
    exact ⟨by rw [hr.out]; rfl, _, rfl⟩
  · have hr : Hid (nextW ws M which from'.toNat = nextW ws M which (max 0 from').toNat) := by
      show _ = _
      congr 1
      omega
    obtain ⟨g0, hg0⟩ : ∃ g : Nat, (max 0 from') = (g : Int) := ⟨(max 0 from').toNat, by omega⟩
    have hmx : (if (0 : Int) < from' then from' else 0) = (g0 : Int) := by rw [← hg0]; split <;> omega
    rw [hg0] at hr
    obtain ⟨R, hR⟩ : ∃ R, nextW ws M which from'.toNat = R := ⟨_, rfl⟩
    rw [hR]
    have hR0 : Hid (nextW ws M which g0 = R) := by
      show _ = _
      rw [← hR, hr.out]
      rfl
    have hfd : decide ((M : Int) ≤ from') = false := by simpa using hfr
    clear hR hr hg0
    go_enter Tryd.func12, Tryd.ntmps12
    go_wp2_with fail
    go_step3
    go_wp2_with (first | (go_at_call 35; refine (hN.out _ (by rfl)).mono ?_; rintro e w' ⟨rfl, rfl⟩) | (go_at_call 37; refine (hM.out _ (by rfl)).mono ?_; rintro e w' ⟨rfl, nm, rfl⟩))
    go_step3
    go_wp2_with fail
    go_loopw [8] (fun gv wr => ∃ (g : Nat), gv = z64 g ∧ (∃ n, wr = w.drewN n) ∧ Hid (nextW ws M which g = R)) (fun gv _ => M - (intOf gv).toNat)
    case atStart => exact ⟨g0, rfl, ⟨_, rfl⟩, hR0⟩
    case round =>
      obtain ⟨g, rfl, ⟨n, rfl⟩, HR⟩ := hrel
      by_cases hlt : g < M
      · have hlti : (g : Int) < M := by omega
        have hpos := H.out.pos (by rw [hMM.out]; exact hlt)
        obtain ⟨cap, hp, hown, hbl, _⟩ := H.out.row (by omega)
        have hpl := lt_heap hp
        have c2 : w.cell? ⟨p, 2, none⟩ = some (.slice (some ⟨b, 0, none⟩) ws.length cap) := (cell_at (i := 2) hp).trans rfl
        obtain ⟨X, hX⟩ : ∃ X, X = ws.getD (g / 64) 0 := ⟨_, rfl⟩
        have cw := own_cell hown (g / 64) (u := b64 X) (by rw [hX]; exact map_at hpos)
        have hX64 : X < 18446744073709551616 := by rw [hX]; exact HW.out.getD _
        have hT' : Tab w := hT
        clear hp hown
        have q1 : Int.tdiv (g : Int) 64 = ((g / 64 : Nat) : Int) := rfl
        have q2 : (g : Int) / 64 = ((g / 64 : Nat) : Int) := rfl
        have q3 : Int.tmod (g : Int) 64 = ((g % 64 : Nat) : Int) := rfl
        have q4 : (g : Int) % 64 = ((g % 64 : Nat) : Int) := rfl
        obtain ⟨Y, hY⟩ : ∃ Y, Y = lookW X which := ⟨_, rfl⟩
        obtain ⟨Z, hZ⟩ : ∃ Z, Z = Y >>> (g % 64) := ⟨_, rfl⟩
        have hY64 : Y < 18446744073709551616 := by rw [hY]; exact lookW_lt hX64 which
        have hZ64 : Z < 18446744073709551616 := by rw [hZ, Nat.shiftRight_eq_div_pow]; exact Nat.lt_of_le_of_lt (Nat.div_le_self _ _) hY64
        have hZi : (Y : Int) / 2 ^ (g % 64) = (Z : Int) := by rw [hZ]; exact shr_i64 _ _
        have HNZ : Hid (Z = lookW (ws.getD (g / 64) 0) which >>> (g % 64)) := by show _ = _; rw [hZ, hY, hX]
        have HXX : Hid (X = ws.getD (g / 64) 0) := hX
        have hQ : g / 64 < ws.length := hpos
        have hR64 : g % 64 < 64 := Nat.mod_lt _ (by decide)
        have hgq : g / 64 * 64 + g % 64 = g := by omega
        obtain ⟨Q, hQe⟩ : ∃ Q, Q = g / 64 := ⟨_, rfl⟩
        obtain ⟨r, hre⟩ : ∃ r, r = g % 64 := ⟨_, rfl⟩
        rw [← hQe] at cw q1 q2 hQ hgq
        rw [← hre] at q3 q4 hZi hR64 hgq
        have q5 : IntKind.i64.wrap (Q : Int) = (Q : Int) := IntWalk.i64_in _ (by omega)
        have hQl : (Q : Int) < ws.length := by omega
        have HQ := Pal.hid hQe
        have HRE := Pal.hid hre
        have hYe := Pal.hid hY
        clear hX hY hZ hQe hre hpos
        by_cases hz : Z = 0
        · have HR2 : Hid (nextW ws M which (Q * 64 + 64) = R) := by
            show _ = _
            rw [← HR.out, HQ.out]
            exact (next_none (by rw [← HXX.out]; exact hX64) (by rw [← HNZ.out]; exact hz)).symm
          subst hz
          cases which
          · have hnot : bits BinOp.xor IntKind.u64 IntKind.u64.max (X : Int) = (Y : Int) := by rw [not_u64 X hX64, hYe.out]; rfl
            have hsg : IntKind.u64.signed = false := rfl
            clear hYe
            go_wp2_with (first | (go_at_call 35; refine (hN.out _ (by rfl)).mono ?_; rintro e w' ⟨rfl, rfl⟩) | (go_at_call 37; refine (hM.out _ (by rfl)).mono ?_; rintro e w' ⟨rfl, nm, rfl⟩))
            go_roundw
            case rel => exact ⟨Q * 64 + 64, by go_num, ⟨_, rfl⟩, HR2⟩
            case measure => simp [intOf]; omega
          · have hYX : Y = X := hYe.out
            clear hYe
            subst hYX
            go_wp2_with (first | (go_at_call 35; refine (hN.out _ (by rfl)).mono ?_; rintro e w' ⟨rfl, rfl⟩) | (go_at_call 37; refine (hM.out _ (by rfl)).mono ?_; rintro e w' ⟨rfl, nm, rfl⟩))
            go_roundw
            case rel => exact ⟨Q * 64 + 64, by go_num, ⟨_, rfl⟩, HR2⟩
            case measure => simp [intOf]; omega
        · obtain ⟨m, hm, ht⟩ := Lib.ctzFrom_spec 64 Z (by omega) hZ64
          obtain ⟨l1, l2⟩ := low_bit hm
          have e : Lib.ctz 64 Z = Lib.ctzFrom 64 Z := by simp [Lib.ctz, hz]
          have htz := Pal.hid (fun (w' : World) (h' : w'.heap = w.heap) => tz_any Z hZ64 hz w' (fun j hj => by unfold World.cell?; rw [h']; exact hT' j hj))
          rw [e] at htz
          obtain ⟨hlt64, hnx⟩ := next_some (many := M) (which := which) (g := g) (by rw [← HXX.out]; exact hX64) (by rw [← HNZ.out]; exact l1) (by rw [← HNZ.out]; exact l2)
          generalize Lib.ctzFrom 64 Z = t at htz ht hlt64 hnx
          clear l1 l2 e hm
          rw [HR.out] at hnx
          have hwr : IntKind.i64.wrap ((g : Int) + (t : Int)) = ((g + t : Nat) : Int) := IntWalk.i64_in _ (by omega)
          have hze : ((Z : Int) == 0) = false := by simp; omega
          have hzn : ((Z : Int) != 0) = true := by simp; omega
          have hzi : ¬ (Z : Int) = 0 := by omega
          by_cases hover : M ≤ g + t
          all_goals
            first | rw [if_pos hover] at hnx | rw [if_neg hover] at hnx
            have hnx := Pal.hid hnx
            have hoi : (decide ((M : Int) ≤ (g : Int) + t)) = decide (M ≤ g + t) := by rw [decide_eq_decide]; omega
            have hod : (M ≤ g + t) ∨ ¬ (M ≤ g + t) := Decidable.em _
            cases which
            · have hnot : bits BinOp.xor IntKind.u64 IntKind.u64.max (X : Int) = (Y : Int) := by rw [not_u64 X hX64, hYe.out]; rfl
              have hsg : IntKind.u64.signed = false := rfl
              clear hYe
              go_wp2_with (first | (go_at_call 35; refine (hN.out _ (by rfl)).mono ?_; rintro e w' ⟨rfl, rfl⟩) | (go_at_call 37; refine (hM.out _ (by rfl)).mono ?_; rintro e w' ⟨rfl, nm, rfl⟩) | (go_at_call 38; refine (htz.out _ (by rfl)).mono ?_; rintro e w' ⟨rfl, rfl⟩))
              rw [Exit.noGoto_ret]
              go_ret2
              exact ⟨by rw [hnx.out]; rfl, _, rfl⟩
            · have hYX : Y = X := hYe.out
              clear hYe
              subst hYX
              go_wp2_with (first | (go_at_call 35; refine (hN.out _ (by rfl)).mono ?_; rintro e w' ⟨rfl, rfl⟩) | (go_at_call 37; refine (hM.out _ (by rfl)).mono ?_; rintro e w' ⟨rfl, nm, rfl⟩) | (go_at_call 38; refine (htz.out _ (by rfl)).mono ?_; rintro e w' ⟨rfl, rfl⟩))
              rw [Exit.noGoto_ret]
              go_ret2
              exact ⟨by rw [hnx.out]; rfl, _, rfl⟩
      · have hlti : ¬ (g : Int) < M := by omega
        have HR0 : Hid (R = none) := by
          show _ = _
          rw [← HR.out]
          exact nextW_end (by omega)
        go_wp2_with (first | (go_at_call 35; refine (hN.out _ (by rfl)).mono ?_; rintro e w' ⟨rfl, rfl⟩) | (go_at_call 37; refine (hM.out _ (by rfl)).mono ?_; rintro e w' ⟨rfl, nm, rfl⟩))
        rw [Exit.noGoto_ret]
        go_ret2
        exact ⟨by rw [HR0.out]; rfl, _, rfl⟩
end Go.Proofs.YtbedjjillioaaaaDoor
