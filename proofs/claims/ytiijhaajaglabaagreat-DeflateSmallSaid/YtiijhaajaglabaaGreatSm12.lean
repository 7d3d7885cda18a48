/- A writer that is newer than a base world; stored blocks are written. Contracts over the document's answers: symbols there and back. Contracts over the document's answers: Length, Distance. Whole arrays of counts: laid, loaded, stored, compared, handed back. Contracts over lz: how often each symbol comes. A block of tokens by two codes is written. Plain: its plain law's words; the state of its walk. -/
import Derived.Test.YtiijhaajaglabaaGreatSm03
import Derived.Test.YtiijhaajaglabaaGreatSm11
import Derived.WalkLawsBesides
import Derived.Laws.Tables
import Derived.Laws.Rows
import Derived.Deep.WholeRow
import Derived.Deep.CutBlock
import Derived.Deep.DeepCutAuto
import Derived.Test.YtiijhaajaglabaaGreatSm07
import Derived.Test.YtiijhaajaglabaaGreatSm02
import Derived.Test.YtiijhaajaglabaaGreatSm06
set_option linter.unusedVariables false
set_option linter.unusedSimpArgs false
set_option linter.unusedVariables false
namespace Go.Proofs.YtiijhaajaglabaaGreat
open Go.RowKit Pal Pal.Cd Pal.Df
/-- A writer that holds L, newer than W. -/
def Wn (W w : World) (p : Nat) (L : List Nat) : Prop := ∃ g, Wr w p g L ∧ (∀ k ∈ wfp p g, W.heap.size ≤ k) ∧ Chg [] W w
theorem Wn.chg {W w : World} {p : Nat} {L : List Nat} (h : Wn W w p L) : Chg [] W w := h.choose_spec.2.2
theorem Wn.still {W w w' : World} {p : Nat} {L : List Nat} (h : Wn W w p L) (hc : Chg [] w w') : Wn W w' p L := by
 obtain ⟨g, h1, h2, h3⟩ := h
 exact ⟨g, h1.keep hc (by simp), h2, h3.trans hc (by simp)⟩
theorem Wn.lt {W w : World} {p : Nat} {L : List Nat} (h : Wn W w p L) : W.heap.size ≤ p ∧ p < w.heap.size := by
 obtain ⟨g, h1, h2, h3⟩ := h
 exact ⟨h2 p (mem_wfp.2 (.inl rfl)), h1.lt p (mem_wfp.2 (.inl rfl))⟩
theorem Wn.bits {W w : World} {p : Nat} {L : List Nat} (h : Wn W w p L) : IsBits L := by
 obtain ⟨g, h1, h2, h3⟩ := h
 exact h1.bits
theorem Wn.next {W w w' : World} {p : Nat} {g : Option Nat} {L : List Nat} (h2 : ∀ k ∈ wfp p g, W.heap.size ≤ k) (h3 : Chg [] W w) (h : ∃ g', Wr w' p g' L ∧ Moved w g g' ∧ Chg (wfp p g) w w') : Wn W w' p L := by
 obtain ⟨g', a, b, c⟩ := h
 refine ⟨g', a, fun k hk => ?_, h3.trans c (fun k hk => .inr (h2 k hk))⟩
 rcases mem_wfp.1 hk with rfl | hk
 ·exact h2 _ (mem_wfp.2 (.inl rfl))
 ·rcases b with rfl | ⟨q, rfl, hq⟩
  ·exact h2 _ (mem_wfp.2 (.inr hk))
  ·obtain rfl : q = k := by simpa using hk
   have := h3.size
   omega
theorem wn_new {W w : World} (h : Chg [] W w) : Calls Tryz.prog 34 #[] w fun e w' => ∃ p, e = .returned (.pointer (some ⟨p, 0, none⟩)) ∧ Wn W w' p [] := by
 refine (newWriter_any w).mono ?_
 rintro e w' ⟨p, rfl, hp, hw, hc⟩
 refine ⟨p, rfl, none, hw, fun k hk => ?_, h.trans hc (by simp)⟩
 rcases mem_wfp.1 hk with rfl | hk
 ·have := h.size; omega
 ·cases hk
theorem wn_put {W w : World} {p : Nat} {L : List Nat} (h : Wn W w p L) {x n : Nat} (hn : n ≤ 57) (hx : x < 2 ^ n) (hL : L.length ≤ 1099511627776) :
  Calls Tryz.prog 35 #[.pointer (some ⟨p, 0, none⟩), b64 x, z64 n] w fun e w' => e = .returned (z64 0) ∧ Wn W w' p (L ++ bitsOf x n) := by
 obtain ⟨g, h1, h2, h3⟩ := h
 refine (put_ok p g L x n w h1 (wide_mk hn hx) (Nat.lt_of_lt_of_le hx (Nat.pow_le_pow_right (by omega) (by omega : n ≤ 64))) hL).mono ?_
 rintro e w' ⟨rfl, h⟩
 exact ⟨rfl, Wn.next h2 h3 h⟩
theorem wn_align {W w : World} {p : Nat} {L : List Nat} (h : Wn W w p L) (hL : L.length ≤ 1099511627776) :
  Calls Tryz.prog 36 #[.pointer (some ⟨p, 0, none⟩)] w fun e w' => e = .returned (z64 0) ∧ Wn W w' p (padded L) := by
 obtain ⟨g, h1, h2, h3⟩ := h
 refine (align_ok p g L w h1 hL).mono ?_
 rintro e w' ⟨rfl, h⟩
 exact ⟨rfl, Wn.next h2 h3 h⟩
theorem wn_raw {W w : World} {p : Nat} {L : List Nat} (h : Wn W w p L) (h8 : L.length % 8 = 0) (hL : L.length ≤ 1099511627776) {v : Value} {n : Nat} {bl : List Nat} (hr : Rd W 1 v n (bl.map b8)) (hb : IsBytes bl) (hn : n ≤ 1099511627776) :
  Calls Tryz.prog 37 #[.pointer (some ⟨p, 0, none⟩), v] w fun e w' => e = .returned (z64 0) ∧ Wn W w' p (L ++ bitsOfBytes bl) := by
 obtain ⟨g, h1, h2, h3⟩ := h
 refine (raw_ok p g L v n bl w h1 h8 hL (hr.keep h3 (by simp)) hb hn).mono ?_
 rintro e w' ⟨rfl, h⟩
 exact ⟨rfl, Wn.next h2 h3 h⟩
theorem wn_bytes {W w : World} {p : Nat} {L : List Nat} (h : Wn W w p L) (hL : L.length ≤ 1099511627776) :
  Calls Tryz.prog 38 #[.pointer (some ⟨p, 0, none⟩)] w fun e w' => ∃ v, e = .returned v ∧ New W v ∧ Own w' 5 1 v (bytesOf L).length ((bytesOf L).map b8) ∧ Chg [] W w' := by
 obtain ⟨g, h1, h2, h3⟩ := h
 refine (bytes_ok p g L w h1 hL).mono ?_
 rintro e w' ⟨v, rfl, hv, ho, hc⟩
 exact ⟨v, rfl, fun k hk => by have := hv k hk; have := h3.size; omega, ho, h3.trans hc (by simp)⟩
/-! ### Stored blocks -/
theorem padded_3 {done : List Nat} {last : Nat} (hl : last ≤ 1) : padded (bitsOfBytes done ++ bitsOf last 3) = bitsOfBytes done ++ (bitsOf last 1 ++ (bitsOf 0 2 ++ bitsOf 0 5)) := by
 unfold padded
 rw [List.length_append, length_bitsOfBytes, length_bitsOf, show (8 - (8 * done.length + 3) % 8) % 8 = 5 by omega, List.append_assoc]
 congr 1
 rcases (by omega : last = 0 ∨ last = 1) with rfl | rfl <;> rfl
theorem rd_head {w : World} {ao : Option Addr} {cap n : Nat} {b : List Nat} (h : Rd w 1 (.slice ao b.length cap) b.length (b.map b8)) (hn : n ≤ b.length) : Rd w 1 (.slice ao n cap) n ((b.take n).map b8) := by
 obtain ⟨ao', cap', hv, hl, hc, h0, h1⟩ := h
 cases hv
 refine ⟨ao, cap, rfl, by simp; omega, by omega, fun e => ⟨by have := (h0 e).1; omega, (h0 e).2⟩, fun a ha j u hu => h1 a ha j u ?_⟩
 rw [List.map_take, List.getElem?_take] at hu
 split at hu
 ·exact hu
 ·cases hu
theorem rd_tail {w : World} {ao : Option Addr} {cap k : Nat} {b : List Nat} (h : Rd w 1 (.slice ao b.length cap) b.length (b.map b8)) (hk : k < b.length) :
  ∃ g off, ao = some ⟨g, off, none⟩ ∧ Rd w 1 (.slice (some ⟨g, off + k, none⟩) (b.length - k) (cap - k)) (b.length - k) ((b.drop k).map b8) := by
 obtain ⟨ao', cap', hv', hl, hc, h0, h1⟩ := h
 cases hv'
 obtain ⟨g, off, cap2, hv, hc2, -, hcell⟩ := Rd.at (w := w) (sz := 1) (v := .slice ao b.length cap) (m := b.length) (xs := b.map b8) ⟨ao, cap, rfl, hl, hc, h0, h1⟩ (by simp; omega)
 simp only [Value.slice.injEq] at hv
 obtain ⟨rfl, -, rfl⟩ := hv
 refine ⟨g, off, rfl, _, _, rfl, by simp, by omega, (fun h => by cases h), fun a ha j u hu => ?_⟩
 obtain rfl : (⟨g, off + k, none⟩ : Addr) = a := by simpa using ha
 rw [addr_add, Nat.add_assoc]
 refine hcell _ _ ?_
 rw [List.map_drop, List.getElem?_drop] at hu
 exact hu
theorem i64_xor (a b : Nat) (ha : a < 4294967296) (hb : b < 4294967296) : bits .xor .i64 (a : Int) (b : Int) = ((a ^^^ b : Nat) : Int) := by
 have h1 : (BitVec.ofInt 64 (a : Int)).toNat = a := by rw [BitVec.toNat_ofInt]; omega
 have h2 : (BitVec.ofInt 64 (b : Int)).toNat = b := by rw [BitVec.toNat_ofInt]; omega
 have key : (BitVec.ofInt 64 (a : Int) ^^^ BitVec.ofInt 64 (b : Int)).toNat = a ^^^ b := by rw [BitVec.toNat_xor, h1, h2]
 show IntKind.i64.wrap ((BitVec.ofInt 64 (a : Int) ^^^ BitVec.ofInt 64 (b : Int)).toNat : Nat) = _
 have h3 : a ^^^ b < 2 ^ 32 := Nat.xor_lt_two_pow (n := 32) ha hb
 rw [key, IntWalk.i64_in _ (by omega)]
set_option maxRecDepth 100000 in
set_option maxHeartbeats 8000000 in
theorem pstored_any {W w : World} {v : Value} {bs : List Nat} (hc : Chg [] W w) (hrd : Rd W 1 v bs.length (bs.map b8)) (hb : IsBytes bs) (hl : bs.length ≤ 1048576) :
  Calls Tryz.prog 17 #[v] w fun e w' => ∃ v', e = .returned v' ∧ New W v' ∧ Own w' 5 1 v' (storedL bs).length ((storedL bs).map b8) ∧ Chg [] W w' := by
 have HRD := Pal.hid hrd
 have HB := Pal.hid hb
 have HNW := Pal.hid (wn_new hc)
 obtain ⟨ao, cap, rfl, -⟩ := hrd
 obtain ⟨R, hR⟩ : ∃ R, R = storedL bs := ⟨_, rfl⟩
 have hRl : R.length ≤ 1048576 + 5 * 18 := by rw [hR, length_storedL]; omega
 have hRb : IsBytes R := by rw [hR]; exact isBytes_storedF _ _ (Nat.le_refl _) hb
 have HRB0 := Pal.hid hRb
 rw [← hR]
 have HR := Pal.hid hR
 have HRL := Pal.hid hRl
 clear hR hRb hb hc hRl
 go_enter Tryz.func17, Tryz.ntmps17
 go_wp2_with fail
 refine HNW.out.mono ?_
 rintro e w1 ⟨p, rfl, wn1⟩
 have HW1 := Pal.hid wn1
 clear wn1
 go_wp2_with fail
 go_loopw [0, 4] (fun bv lv wr => ∃ (last f : Nat) (done b : List Nat) (ab : Option Addr) (cb : Nat), bv = .slice ab b.length cb ∧ lv = b64 last ∧ Hid (last ≤ 1) ∧ Hid (last = 1 → R = done) ∧ Hid (last = 0 → R = done ++ storedF f b ∧ b.length ≤ f) ∧ Hid (IsBytes b ∧ b.length ≤ 1048576) ∧ Hid (last = 0 → Rd W 1 (.slice ab b.length cb) b.length (b.map b8)) ∧ Hid (done.length ≤ 1048576 + 90) ∧ Hid (Wn W wr p (bitsOfBytes done))) (fun bv lv _ => match bv, lv with | .slice _ n _, .int _ l => 2 * n + 1 - l.toNat | _, _ => 0)
 case atStart => exact ⟨0, bs.length, [], bs, ao, cap, rfl, rfl, Pal.hid (by omega), Pal.hid (by omega), Pal.hid fun _ => ⟨by rw [HR.out]; rfl, Nat.le_refl _⟩, Pal.hid ⟨HB.out, hl⟩, Pal.hid fun _ => HRD.out, Pal.hid (by simp), HW1⟩
 case round =>
  obtain ⟨last, f, done, b, ab, cb, rfl, rfl, HLA, HL1, HL0, HBB, HRB, HDL, HWR⟩ := hrel
  have hdl := HDL.out
  by_cases h0 : last = 0
  ·subst h0
   have hbl := HBB.out.2
   have hrb := HRB.out rfl
   have HR0 := Pal.hid (HL0.out rfl)
   have hcb : b.length ≤ cb := by obtain ⟨_, _, e, _, h, _⟩ := hrb; cases e; exact h
   have hcbi : (b.length : Int) ≤ cb := by omega
   have hL0 : (bitsOfBytes done).length = 8 * done.length := length_bitsOfBytes done
   by_cases hlast : b.length ≤ 65535
   ·obtain ⟨N, hN⟩ : ∃ N, N = b.length := ⟨_, rfl⟩
    have hmin : (if (b.length : Int) < 65535 then (b.length : Int) else 65535) = b.length := by split <;> omega
    have hmin2 : min (b.length : Int) 65535 = b.length := by omega
    have hwx : bits .xor .i64 (b.length : Int) 65535 = ((65535 - b.length : Nat) : Int) := by
     rw [← xor_all (by omega), ← i64_xor _ _ (by omega) (by omega)]
     rfl
    have hw1 : IntKind.u64.wrap (b.length : Int) = b.length := by rw [wrap_u64, Nat.mod_eq_of_lt (by omega)]
    have hw2 : IntKind.u64.wrap ((65535 - b.length : Nat) : Int) = ((65535 - b.length : Nat) : Int) := by rw [wrap_u64, Nat.mod_eq_of_lt (by omega)]
    have HP1 := Pal.hid (wn_put (x := 1) (n := 3) HWR.out (by decide) (by decide) (by omega))
    go_wp2_with fail
    refine HP1.out.mono ?_
    rintro e w2 ⟨rfl, wn2⟩
    have HP2 := Pal.hid (wn_align wn2 (by rw [List.length_append, length_bitsOf]; omega))
    rw [padded_3 (by decide)] at HP2
    clear wn2 HP1
    go_wp2_with fail
    refine HP2.out.mono ?_
    rintro e w3 ⟨rfl, wn3⟩
    have hl3 : (bitsOfBytes done ++ (bitsOf 1 1 ++ (bitsOf 0 2 ++ bitsOf 0 5))).length = 8 * done.length + 8 := by simp [length_bitsOf, hL0]
    have HP3 := Pal.hid (wn_put (x := b.length) (n := 16) wn3 (by decide) (by omega) (by omega))
    clear wn3 HP2
    go_wp2_with fail
    refine HP3.out.mono ?_
    rintro e w4 ⟨rfl, wn4⟩
    have HP4 := Pal.hid (wn_put (x := 65535 - b.length) (n := 16) wn4 (by decide) (by omega) (by rw [List.length_append, length_bitsOf]; omega))
    clear wn4 HP3
    go_wp2_with fail
    refine HP4.out.mono ?_
    rintro e w5 ⟨rfl, wn5⟩
    have HP5 := Pal.hid (wn_raw wn5 (by simp [length_bitsOf, hl3]; omega) (by simp [length_bitsOf, hl3]; omega) hrb HBB.out.1 (by omega))
    clear wn5 HP4 hwx hw1 hw2 hmin hmin2 hl3 hL0 hN N
    go_wp2_with fail
    refine HP5.out.mono ?_
    rintro e w6 ⟨rfl, wn6⟩
    have HW6 := Pal.hid wn6
    clear wn6 HP5
    go_wp2_with fail
    obtain ⟨hR0, hf0⟩ := HR0.out
    have hRl := HRL.out
    rw [storedF_last hlast] at hR0
    have hbits : bitsOfBytes done ++ (bitsOf 1 1 ++ (bitsOf 0 2 ++ bitsOf 0 5)) ++ bitsOf b.length 16 ++ bitsOf (65535 - b.length) 16 ++ bitsOfBytes b = bitsOfBytes R := by
     rw [hR0, bitsOfBytes_append, bits_hd5 (by decide) (by omega)]
     simp only [List.append_assoc]
    rw [hbits] at HW6
    refine ⟨⟨1, 0, R, [], _, _, rfl, rfl, Pal.hid (by decide), Pal.hid (fun _ => rfl), Pal.hid (fun h => by omega), Pal.hid ⟨fun x hx => by simp at hx, by simp⟩, Pal.hid (fun h => by omega), Pal.hid (by omega), HW6⟩, ?_⟩
    simp
   ·have hb65 : 65535 < b.length := by omega
    have hb65i : (65535 : Int) < b.length := by omega
    have hcb65 : 65535 < cb := by omega
    have hcb65i : (65535 : Int) < cb := by omega
    have hmin : (if (b.length : Int) < 65535 then (b.length : Int) else 65535) = 65535 := by split <;> omega
    have hmin2 : min (b.length : Int) 65535 = 65535 := by omega
    have hne : ((65535 : Int) == b.length) = false := by simp; omega
    have hRH := Pal.hid (rd_head (n := 65535) hrb (by omega))
    obtain ⟨g, off, rfl, hrt⟩ := rd_tail (k := 65535) hrb hb65
    have HRT := Pal.hid hrt
    have HP1 := Pal.hid (wn_put (x := 0) (n := 3) HWR.out (by decide) (by decide) (by omega))
    clear hrt hrb
    go_wp2_with fail
    refine HP1.out.mono ?_
    rintro e w2 ⟨rfl, wn2⟩
    have HP2 := Pal.hid (wn_align wn2 (by rw [List.length_append, length_bitsOf]; omega))
    rw [padded_3 (by decide)] at HP2
    clear wn2 HP1
    go_wp2_with fail
    refine HP2.out.mono ?_
    rintro e w3 ⟨rfl, wn3⟩
    have hl3 : (bitsOfBytes done ++ (bitsOf 0 1 ++ (bitsOf 0 2 ++ bitsOf 0 5))).length = 8 * done.length + 8 := by simp [length_bitsOf, hL0]
    have HP3 := Pal.hid (wn_put (x := 65535) (n := 16) wn3 (by decide) (by omega) (by omega))
    clear wn3 HP2
    go_wp2_with fail
    refine HP3.out.mono ?_
    rintro e w4 ⟨rfl, wn4⟩
    have HP4 := Pal.hid (wn_put (x := 0) (n := 16) wn4 (by decide) (by omega) (by rw [List.length_append, length_bitsOf]; omega))
    clear wn4 HP3
    go_wp2_with fail
    refine HP4.out.mono ?_
    rintro e w5 ⟨rfl, wn5⟩
    have HP5 := Pal.hid (wn_raw wn5 (by simp [length_bitsOf, hl3]; omega) (by simp [length_bitsOf, hl3]; omega) hRH.out (fun x hx => HBB.out.1 x (List.mem_of_mem_take hx)) (by omega))
    clear wn5 HP4 hmin hmin2 hl3 hL0 hne
    go_wp2_with fail
    refine HP5.out.mono ?_
    rintro e w6 ⟨rfl, wn6⟩
    have HW6 := Pal.hid wn6
    clear wn6 HP5
    go_wp2_with fail
    obtain ⟨hR0, hf0⟩ := HR0.out
    have hRl := HRL.out
    obtain ⟨f, rfl⟩ : ∃ f', f = f' + 1 := ⟨f - 1, by omega⟩
    rw [storedF_more hb65] at hR0
    have hbits : bitsOfBytes done ++ (bitsOf 0 1 ++ (bitsOf 0 2 ++ bitsOf 0 5)) ++ bitsOf 65535 16 ++ bitsOf 0 16 ++ bitsOfBytes (b.take 65535) = bitsOfBytes (done ++ (hd5 0 65535 ++ b.take 65535)) := by
     rw [bitsOfBytes_append, bits_hd5 (by decide) (by decide)]
     simp only [List.append_assoc]
    rw [hbits] at HW6
    have hlen := congrArg List.length hR0
    simp only [List.length_append] at hlen
    have hdrop : (b.drop 65535).length = b.length - 65535 := List.length_drop ..
    refine ⟨⟨0, f, done ++ (hd5 0 65535 ++ b.take 65535), b.drop 65535, _, _, by rw [hdrop], rfl, Pal.hid (by decide), Pal.hid (fun h => by omega), Pal.hid (fun _ => ⟨by rw [hR0]; simp only [List.append_assoc], by rw [hdrop]; omega⟩), Pal.hid ⟨fun x hx => HBB.out.1 x (List.mem_of_mem_drop hx), by rw [hdrop]; omega⟩, Pal.hid (fun _ => by rw [hdrop]; exact HRT.out), Pal.hid (by simp only [List.length_append]; omega), HW6⟩, ?_⟩
    simp
    omega
  ·have h1 : last = 1 := by have := HLA.out; omega
   subst h1
   have hRD := HL1.out rfl
   have hRL := HRL.out
   go_wp2_with fail
   refine (wn_bytes HWR.out (by rw [length_bitsOfBytes]; omega)).mono ?_
   rintro e w2 ⟨v2, rfl, nw2, ow2, ch2⟩
   rw [bytesOf_bitsOfBytes done (by rw [← hRD]; exact HRB0.out), ← hRD] at ow2
   go_wp2_with fail
   go_ret
   exact ⟨v2, rfl, nw2, ow2, ch2⟩
end Go.Proofs.YtiijhaajaglabaaGreat
set_option linter.unusedVariables false
namespace Go.Proofs.YtiijhaajaglabaaGreat.Lz
open Go.RowKit Go.ChangeShapes Go.WideShapes Go.ChangeAt Pal
end Go.Proofs.YtiijhaajaglabaaGreat.Lz
set_option linter.unusedVariables false
namespace Go.Proofs.YtiijhaajaglabaaGreat.Lz
open Go.RowKit Go.ChangeShapes Go.WideShapes Go.ChangeAt Pal
end Go.Proofs.YtiijhaajaglabaaGreat.Lz
set_option linter.unusedVariables false
namespace Go.Proofs.YtiijhaajaglabaaGreat.Lz
open Go.RowKit Go.ChangeShapes Go.WideShapes Go.ChangeAt Pal
abbrev c32 (x : Nat) : Value := .int .u32 x
abbrev row32 (l : List Nat) : Array Value := (l.map c32).toArray
theorem size_row32 (l : List Nat) : (row32 l).size = l.length := by simp [row32]
theorem oneCell_row32 (l : List Nat) : (row32 l).all (·.oneCell') = true := by
 rw [← Array.all_toList, List.all_eq_true]
 intro u hu
 simp [row32] at hu
 obtain ⟨a, _, rfl⟩ := hu
 rfl
theorem exec_load_row {P : Program} {o : Oper} {a : Act} {w : World} (ty : TypeId) (x : Operand) (ho : o.op = .load ty x)
  (g : Nat) (hx : a.eval x = .pointer (some ⟨g, 0, none⟩)) (t : TypeId) (cs : Array Value) (fr : Nat × Nat) (d : TypeDesc) (hg : w.heap[g]? = some (.cells cs t fr))
  (hu : P.underlying ty = some d) (hd : (match d with | .struct _ | .array _ _ => true | _ => false) = true) (hi : (P.info? ty).map (·.size) = some cs.size) :
  (execOp a.eval o).run P w = .ok (.value (.agg cs)) w := by
 unfold execOp
 simp only [ho, hx, Instr.loadAt, Instr.sureAddr, Sem.run_bind, Sem.run_pure, Result.andThen_ok, run_loadVar_row w g t ty cs fr d hg hu hd hi]
theorem under52 : Tryz.prog.underlying 101 = some (.array 286 100) := by kernel_rfl
theorem under53 : Tryz.prog.underlying 102 = some (.array 30 100) := by kernel_rfl
theorem info52 : (Tryz.prog.info? 101).map (fun i => (i.zero, i.size)) = some (some (.agg (row32 (List.replicate 286 0))), 286) := by kernel_rfl
theorem info53 : (Tryz.prog.info? 102).map (fun i => (i.zero, i.size)) = some (some (.agg (row32 (List.replicate 30 0))), 30) := by kernel_rfl
theorem ret_cct {P : Program} {fn : Func} {p q u : Tmp} {ty ty2 : TypeId} (h : fn.results = #[.cell p ty, .cell q ty2, .tmp u]) (tmps : Array Value) (w : World) (g g2 : Nat) (t t2 : TypeId) (cs cs2 : Array Value) (fr fr2 : Nat × Nat) (d d2 : TypeDesc)
  (hp : tmps.getD p undef = .pointer (some ⟨g, 0, none⟩)) (hg : w.heap[g]? = some (.cells cs t fr)) (hu : P.underlying ty = some d) (hd : (match d with | .struct _ | .array _ _ => true | _ => false) = true) (hi : (P.info? ty).map (·.size) = some cs.size)
  (hq : tmps.getD q undef = .pointer (some ⟨g2, 0, none⟩)) (hg2 : w.heap[g2]? = some (.cells cs2 t2 fr2)) (hu2 : P.underlying ty2 = some d2) (hd2 : (match d2 with | .struct _ | .array _ _ => true | _ => false) = true) (hi2 : (P.info? ty2).map (·.size) = some cs2.size)
  {r : Value} (hr : tmps.getD u undef = r) : (results fn tmps).run P w = .ok (.tuple #[.agg cs, .agg cs2, r]) w := by
 have hp' : tmps[p]?.getD undef = .pointer (some ⟨g, 0, none⟩) := by simpa using hp
 have hq' : tmps[q]?.getD undef = .pointer (some ⟨g2, 0, none⟩) := by simpa using hq
 have hr' : tmps[u]?.getD undef = r := by simpa using hr
 simp [results, h, hp', hq', hr', asAddr, run_loadVar_row w g t ty cs fr d hg hu hd hi, run_loadVar_row w g2 t2 ty2 cs2 fr2 d2 hg2 hu2 hd2 hi2]
theorem ret_cc {P : Program} {fn : Func} {p q : Tmp} {ty ty2 : TypeId} (h : fn.results = #[.cell p ty, .cell q ty2]) (tmps : Array Value) (w : World) (g g2 : Nat) (t t2 : TypeId) (cs cs2 : Array Value) (fr fr2 : Nat × Nat) (d d2 : TypeDesc)
  (hp : tmps.getD p undef = .pointer (some ⟨g, 0, none⟩)) (hg : w.heap[g]? = some (.cells cs t fr)) (hu : P.underlying ty = some d) (hd : (match d with | .struct _ | .array _ _ => true | _ => false) = true) (hi : (P.info? ty).map (·.size) = some cs.size)
  (hq : tmps.getD q undef = .pointer (some ⟨g2, 0, none⟩)) (hg2 : w.heap[g2]? = some (.cells cs2 t2 fr2)) (hu2 : P.underlying ty2 = some d2) (hd2 : (match d2 with | .struct _ | .array _ _ => true | _ => false) = true) (hi2 : (P.info? ty2).map (·.size) = some cs2.size) :
  (results fn tmps).run P w = .ok (.tuple #[.agg cs, .agg cs2]) w := by
 have hp' : tmps[p]?.getD undef = .pointer (some ⟨g, 0, none⟩) := by simpa using hp
 have hq' : tmps[q]?.getD undef = .pointer (some ⟨g2, 0, none⟩) := by simpa using hq
 simp [results, h, hp', hq', asAddr, run_loadVar_row w g t ty cs fr d hg hu hd hi, run_loadVar_row w g2 t2 ty2 cs2 fr2 d2 hg2 hu2 hd2 hi2]
end Go.Proofs.YtiijhaajaglabaaGreat.Lz
set_option linter.unusedVariables false
namespace Go.Proofs.YtiijhaajaglabaaGreat.Lz
open Go.RowKit Go.ChangeShapes Go.WideShapes Go.ChangeAt Pal
def bump (l : List Nat) (i : Nat) : List Nat := l.set i (l.getD i 0 + 1)
def cntStep (p : List Nat × List Nat) (t : Tk) : List Nat × List Nat := if t.l = 0 then (bump p.1 t.b, p.2) else (bump p.1 (257 + lenS t.l), bump p.2 (disS t.d))
def cnt0 : List Nat × List Nat := ((List.replicate 286 0).set 256 1, List.replicate 30 0)
def countsL (ts : List Tk) : List Nat × List Nat := ts.foldl cntStep cnt0
theorem length_bump (l : List Nat) (i : Nat) : (bump l i).length = l.length := by simp [bump]
theorem bump_le {l : List Nat} {i b : Nat} (h : ∀ x ∈ l, x ≤ b) : ∀ x ∈ bump l i, x ≤ b + 1 := by
 intro x hx
 unfold bump at hx
 rcases List.mem_or_eq_of_mem_set hx with hx | rfl
 ·have := h x hx; omega
 ·rw [List.getD_eq_getElem?_getD]
  cases hi : l[i]? with
  | none => simp
  | some y => have := h y (List.mem_of_getElem? hi); simpa using this
theorem row_cell {w : World} {B : Nat} {l : List Nat} {t : TypeId} (h : w.heap[B]? = some (.cells (row32 l) t (0, 0))) {i : Nat} (hi : i < l.length) : w.cell? ⟨B, i, none⟩ = some (c32 (l.getD i 0)) := by
 rw [cell_at h]
 simp only [List.getElem?_toArray]
 exact map_at (f := c32) hi
theorem row_set {w : World} {B : Nat} {l : List Nat} {t : TypeId} (h : w.heap[B]? = some (.cells (row32 l) t (0, 0))) (i x : Nat) : (w.setCell ⟨B, i, none⟩ (c32 x)).heap[B]? = some (.cells (row32 (l.set i x)) t (0, 0)) := by
 rw [heap_set h]
 simp [row32, List.map_set]
theorem resCounts : Tryz.f45.results = #[.cell 2 101, .cell 3 102, .tmp 4] := by kernel_rfl
set_option maxRecDepth 100000 in
set_option maxHeartbeats 4000000 in
theorem counts_any (v : Value) (ts : List Tk) (w : World) (hrd : Rd w 3 v ts.length (toksC ts)) (hok : ∀ t ∈ ts, t.ok) (hl : ts.length ≤ 1048576) :
  Calls Tryz.prog 45 #[v] w fun e w' => e = .returned (.tuple #[.agg (row32 (countsL ts).1), .agg (row32 (countsL ts).2), z64 0]) ∧ Chg [] w w' := by
 have HRD := Pal.hid hrd
 obtain ⟨ao, cap, rfl, _⟩ := hrd
 have HOK := Pal.hid hok
 obtain ⟨R, hR⟩ : ∃ R, R = countsL ts := ⟨_, rfl⟩
 rw [← hR]
 have HR0 : Hid ((ts.drop 0).foldl cntStep cnt0 = R) := show _ = R from hR.symm
 clear hR hok
 obtain ⟨z52, s52⟩ := zero_of_info info52
 obtain ⟨z53, s53⟩ := zero_of_info info53
 obtain ⟨l0, hl0⟩ : ∃ l, l = List.replicate 286 0 := ⟨_, rfl⟩
 obtain ⟨m0, hm0⟩ : ∃ l, l = List.replicate 30 0 := ⟨_, rfl⟩
 rw [← hl0] at z52
 rw [← hm0] at z53
 have hl0l : l0.length = 286 := by rw [hl0, List.length_replicate]
 have hm0l : m0.length = 30 := by rw [hm0, List.length_replicate]
 have HL0 := Pal.hid hl0
 have HM0 := Pal.hid hm0
 have s52 := Pal.hid s52
 have s53 := Pal.hid s53
 clear hl0 hm0
 go_enter Tryz.func45, Tryz.ntmps45
 go_wp2_with fail
 have c0 := ((Chg.refl [] w).alloc (.cells (row32 l0) 101)).alloc (.cells (row32 m0) 102)
 have n2 := heap_old (o := .cells (row32 m0) 102) (heap_new w (.cells (row32 l0) 101))
 have n3 := heap_new (w.alloc (.cells (row32 l0) 101)) (.cells (row32 m0) 102)
 rw [World.size_alloc] at n3
 generalize (w.alloc (.cells (row32 l0) 101)).alloc (.cells (row32 m0) 102) = w0 at c0 n2 n3 ⊢
 obtain ⟨B3, hB3⟩ : ∃ B, B = w.heap.size + 1 := ⟨_, rfl⟩
 obtain ⟨B2, hB2⟩ : ∃ B, B = w.heap.size := ⟨_, rfl⟩
 rw [← hB3] at n3 ⊢
 rw [← hB2] at n2 ⊢
 have HB2 := Pal.hid hB2
 have HB3 := Pal.hid hB3
 have h23 : ¬ B2 = B3 := by omega
 have h32 : ¬ B3 = B2 := by omega
 clear hB2 hB3 z52 z53
 have hck := checks_any (.slice ao ts.length cap) (ts.map tz) w0 (by rw [List.length_map, ← toksC_tz]; exact HRD.out.keep c0 (by simp)) (by rw [List.length_map]; omega)
 rw [checks_tk HOK.out (by omega)] at hck
 refine hck.mono ?_
 clear hck
 rintro e w1 ⟨rfl, hc1⟩
 have c1 := c0.trans hc1 (by simp)
 have n2 := hc1.heap n2 (by simp)
 have n3 := hc1.heap n3 (by simp)
 have hcell := row_cell (i := 256) n2 (by omega)
 have hfree := free_at (i := 256) n2
 have n2' := row_set n2 256 1
 have n3' := heap_set_far (p := B2) (i := 256) (u := c32 1) n3 h32
 have c2 : Chg [] w (w1.setCell ⟨B2, 256, none⟩ (c32 1)) := c1.setCell (.inr (by rw [← HB2.out]; exact Nat.le_refl _)) _
 generalize l0.getD 256 0 = old at hcell
 have n2' := Pal.hid n2'
 have n3' := Pal.hid n3'
 have c2 := Pal.hid c2
 clear hc1 c0 n2 n3 c1
 go_wp2_with fail
 have n2 := n2'.out
 have n3 := n3'.out
 have c2 := c2.out
 rw [show (Value.int .u32 1) = c32 1 from rfl]
 generalize w1.setCell ⟨B2, 256, none⟩ (c32 1) = w2 at n2 n3 c2 ⊢
 clear n2' n3' hcell hfree
 refine (lengths_any w2).mono ?_
 rintro e w3 ⟨wv, lv, rfl, P1, P2, rfl, rfl, r1, r2, k1, k2, c3⟩
 have hs2 := lt_heap n2
 have hs3 := lt_heap n3
 have n2 := c3.heap n2 (by simp)
 have n3 := c3.heap n3 (by simp)
 go_wp2_with fail
 refine (distances_any w3).mono ?_
 rintro e w4 ⟨wv, lv, rfl, P3, P4, rfl, rfl, r3, r4, k3, k4, c4⟩
 have n2 := c4.heap n2 (by simp)
 have n3 := c4.heap n3 (by simp)
 have hs4 := c3.size
 have r1 := r1.keep c4 (by simp)
 have r2 := r2.keep c4 (by simp)
 have c24 : Chg [] w w4 := (c2.trans c3 (by simp)).trans c4 (by simp)
 have hP : P1 ∉ [B2, B3] ∧ P2 ∉ [B2, B3] ∧ P3 ∉ [B2, B3] ∧ P4 ∉ [B2, B3] := by simp; omega
 have TR : ∀ w', Chg [B2, B3] w4 w' → Rd w' 1 (.slice (some ⟨P1, 0, none⟩) 29 29) 29 (lw.map zn) ∧ Rd w' 1 (.slice (some ⟨P2, 0, none⟩) 29 29) 29 (lf.map zn) ∧ Rd w' 1 (.slice (some ⟨P3, 0, none⟩) 30 30) 30 (dw.map zn) ∧ Rd w' 1 (.slice (some ⟨P4, 0, none⟩) 30 30) 30 (df.map zn) := fun w' hc =>
  ⟨r1.keep hc (fun k hk => by obtain rfl : P1 = k := (by simpa [slBlock] using hk); exact hP.1),
   r2.keep hc (fun k hk => by obtain rfl : P2 = k := (by simpa [slBlock] using hk); exact hP.2.1),
   r3.keep hc (fun k hk => by obtain rfl : P3 = k := (by simpa [slBlock] using hk); exact hP.2.2.1),
   r4.keep hc (fun k hk => by obtain rfl : P4 = k := (by simpa [slBlock] using hk); exact hP.2.2.2)⟩
 have TR := Pal.hid TR
 have hA0 : l0.set 256 1 = cnt0.1 := by rw [HL0.out]; rfl
 have hB0 : m0 = cnt0.2 := HM0.out
 rw [hA0] at n2
 rw [hB0] at n3
 have hb0 : (∀ x ∈ cnt0.1, x ≤ 0 + 1) ∧ ∀ x ∈ cnt0.2, x ≤ 0 + 1 := by decide +kernel
 have hBB : w.heap.size ≤ B2 ∧ w.heap.size ≤ B3 := by rw [HB2.out, HB3.out]; omega
 have hls : cnt0.1.length = 286 ∧ cnt0.2.length = 30 := by decide +kernel
 generalize cnt0 = p0 at n2 n3 hb0 hls HR0
 clear r1 r2 r3 r4 c2 c3 c4 hA0 hB0 hP
 have h29 : lw.length = 29 := rfl
 have h30 : dw.length = 30 := rfl
 rw [h29, h30]
 go_wp2_with fail
 go_loopw [35] (fun iv wr => ∃ (i : Nat) (A B : List Nat), i ≤ ts.length ∧ iv = z64 i ∧ wr.heap[B2]? = some (.cells (row32 A) 101 (0, 0)) ∧ wr.heap[B3]? = some (.cells (row32 B) 102 (0, 0)) ∧ A.length = 286 ∧ B.length = 30 ∧ Hid (∀ x ∈ A, x ≤ i + 1) ∧ Hid (∀ x ∈ B, x ≤ i + 1) ∧
  Hid ((ts.drop i).foldl cntStep (A, B) = R) ∧ Chg [B2, B3] w4 wr) (fun iv _ => ts.length - (intOf iv).toNat)
 case atStart => exact ⟨0, p0.1, p0.2, Nat.zero_le _, rfl, n2, n3, hls.1, hls.2, hb0.1, hb0.2, HR0, Chg.refl _ _⟩
 case round =>
  obtain ⟨i, A, B, hi, rfl, n2, n3, hAl, hBl, hAb, hBb, HD, hchg⟩ := hrel
  have kw : Chg [] w wr := (c24.trans hchg (fun k hk => .inr (by simp at hk; omega)))
  by_cases hlt : i < ts.length
  ·have hlti : (i : Int) < ts.length := by omega
   obtain ⟨b, off, cb, hv, hmc, hblt, hcell⟩ := HRD.out.at (by rw [length_toksC]; omega)
   simp only [Value.slice.injEq] at hv
   obtain ⟨rfl, _, rfl⟩ := hv
   obtain ⟨c0, c1, c2⟩ := toks_cells hcell hlt
   have c0 := kw.cell c0 (by simp)
   have c1 := kw.cell c1 (by simp)
   have c2 := kw.cell c2 (by simp)
   obtain ⟨t, ht⟩ : ∃ t, t = ts[i] := ⟨_, rfl⟩
   have htok : t.ok := by rw [ht]; exact HOK.out _ (List.getElem_mem hlt)
   have HD : Hid ((ts.drop (i + 1)).foldl cntStep (cntStep (A, B) t) = R) := by
    show _ = _
    rw [ht, ← List.foldl_cons, ← List.drop_eq_getElem_cons hlt]
    exact HD.out
   rw [← ht] at c0 c1 c2
   have hbl2 : b < wr.heap.size := by have := kw.size; omega
   have hB2l := lt_heap n2
   have hB3l := lt_heap n3
   have hwi : IntKind.i64.wrap ((i : Int) + 1) = ((i + 1 : Nat) : Int) := IntWalk.i64_in _ (by omega)
   obtain ⟨htb, hto⟩ := htok
   clear hcell ht
   by_cases hl0 : t.l = 0
   ·have hl0i : (t.l : Int) = 0 := by omega
    have hst : cntStep (A, B) t = (bump A t.b, B) := by rw [cntStep, if_pos hl0]
    rw [hst] at HD
    have hcA := row_cell (i := t.b) n2 (by omega)
    have hfA := free_at (i := t.b) n2
    obtain ⟨x, hx⟩ : ∃ x, x = A.getD t.b 0 := ⟨_, rfl⟩
    rw [← hx] at hcA
    have hxb : x ≤ i + 1 := by
     rw [hx, List.getD_eq_getElem?_getD, List.getElem?_eq_getElem (by omega)]
     exact hAb.out _ (List.getElem_mem _)
    have hx1 : IntKind.u32.wrap ((x : Int) + 1) = ((x + 1 : Nat) : Int) := by
     simp [IntKind.wrap, IntKind.bits, IntKind.signed]; omega
    have HX := Pal.hid hx
    have hbi : (t.b : Int) < 286 := by omega
    have hbump : A.set t.b (x + 1) = bump A t.b := by rw [bump, hx]
    clear hx hst
    go_wp2_with fail
    have m2 := row_set n2 t.b (x + 1)
    rw [hbump] at m2
    have m3 := heap_set_far (p := B2) (i := t.b) (u := c32 (x + 1 : Nat)) n3 h32
    have cE : Chg [B2, B3] w4 (wr.setCell ⟨B2, t.b, none⟩ (c32 (x + 1 : Nat))) := hchg.setCell (.inl (by simp)) _
    refine ⟨⟨i + 1, bump A t.b, B, by omega, rfl, heap_old m2, heap_old m3, by rw [length_bump]; exact hAl, hBl, bump_le hAb.out, fun y hy => Nat.le_succ_of_le (hBb.out y hy), HD, cE.alloc _⟩, by simp [intOf]; omega⟩
   ·have hl0i : ¬ (t.l : Int) = 0 := by omega
    have hst : cntStep (A, B) t = (bump A (257 + lenS t.l), bump B (disS t.d)) := by rw [cntStep, if_neg hl0]
    rw [hst] at HD
    have hl3 : 3 ≤ t.l ∧ t.l ≤ 258 ∧ 1 ≤ t.d ∧ t.d ≤ 32768 := by omega
    have hS := lenS_le t.l
    have hD := disS_le t.d
    have HS1 := fun w' h1 h2 => symbol_any t.l 28 (.slice (some ⟨P1, 0, none⟩) 29 29) (.slice (some ⟨P2, 0, none⟩) 29 29) lw lf w' h1 h2 rfl rfl (by show 3 ≤ t.l; omega) (by decide) (by omega)
    have HS2 := fun w' h1 h2 => symbol_any t.d 29 (.slice (some ⟨P3, 0, none⟩) 30 30) (.slice (some ⟨P4, 0, none⟩) 30 30) dw df w' h1 h2 rfl rfl (by show 1 ≤ t.d; omega) (by decide) (by omega)
    obtain ⟨s, hs⟩ : ∃ s, s = lenS t.l := ⟨_, rfl⟩
    obtain ⟨d, hd⟩ : ∃ d, d = disS t.d := ⟨_, rfl⟩
    have e1 : symDown t.l lf 28 = s := hs.symm
    have e2 : symDown t.d df 29 = d := hd.symm
    rw [e1] at HS1
    rw [e2] at HS2
    rw [← hs] at HD hS
    rw [← hd] at HD hD
    generalize t.l - lf.getD s 0 = f1 at HS1
    generalize lw.getD s 0 = f2 at HS1
    generalize t.d - df.getD d 0 = f3 at HS2
    generalize dw.getD d 0 = f4 at HS2
    have HS1 := Pal.hid HS1
    have HS2 := Pal.hid HS2
    obtain ⟨q, hq⟩ : ∃ q, q = 257 + s := ⟨_, rfl⟩
    rw [← hq] at HD
    have hwq : IntKind.i64.wrap (257 + (s : Int)) = (q : Int) := by
     rw [show 257 + (s : Int) = (q : Int) by omega]
     exact IntWalk.i64_in _ (by omega)
    have hqi : (q : Int) < 286 := by omega
    have hdi : (d : Int) < 30 := by omega
    have hcA := row_cell (i := q) n2 (by omega)
    have hfA := free_at (i := q) n2
    have hcB := row_cell (i := d) n3 (by omega)
    have hfB := free_at (i := d) n3
    obtain ⟨x, hx⟩ : ∃ x, x = A.getD q 0 := ⟨_, rfl⟩
    obtain ⟨y, hy⟩ : ∃ y, y = B.getD d 0 := ⟨_, rfl⟩
    rw [← hx] at hcA
    rw [← hy] at hcB
    have hxb : x ≤ i + 1 := by
     rw [hx, List.getD_eq_getElem?_getD, List.getElem?_eq_getElem (by omega)]
     exact hAb.out _ (List.getElem_mem _)
    have hyb : y ≤ i + 1 := by
     rw [hy, List.getD_eq_getElem?_getD, List.getElem?_eq_getElem (by omega)]
     exact hBb.out _ (List.getElem_mem _)
    have hx1 : IntKind.u32.wrap ((x : Int) + 1) = ((x + 1 : Nat) : Int) := by
     simp [IntKind.wrap, IntKind.bits, IntKind.signed]; omega
    have hy1 : IntKind.u32.wrap ((y : Int) + 1) = ((y + 1 : Nat) : Int) := by
     simp [IntKind.wrap, IntKind.bits, IntKind.signed]; omega
    have hbA : A.set q (x + 1) = bump A q := by rw [bump, hx]
    have hbB : B.set d (y + 1) = bump B d := by rw [bump, hy]
    have e1 := e1
    clear hx hy hst hs hd e1 e2 hq
    go_upto_region 12 with fail
    have cW5 := hchg.alloc (.cells (tkc t) 60)
    have m2 := heap_old (o := .cells (tkc t) 60) n2
    have m3 := heap_old (o := .cells (tkc t) 60) n3
    have mt := heap_new wr (.cells (tkc t) 60)
    have cA : Chg [] wr (wr.alloc (.cells (tkc t) 60)) := (Chg.refl _ _).alloc _
    have hcA := cA.cell hcA (by simp)
    have hcB := cA.cell hcB (by simp)
    have hfA : (wr.alloc (.cells (tkc t) 60)).frozen? ⟨B2, q, none⟩ = false := (cA.frozen hB2l (by simp)).trans hfA
    have hfB : (wr.alloc (.cells (tkc t) 60)).frozen? ⟨B3, d, none⟩ = false := (cA.frozen hB3l (by simp)).trans hfB
    have hs5 := cA.size
    generalize hw5 : wr.alloc (.cells #[.int .u8 (t.b : Nat), .int .i64 (t.l : Nat), .int .i64 (t.d : Nat)] 60) = w5 at cW5 m2 m3 mt hcA hcB hfA hfB hs5 ⊢
    generalize wr.heap.size = B10 at mt ⊢
    have x1 : w5.cell? ⟨B10, 1, none⟩ = some (z64 t.l) := (cell_at (i := 1) mt).trans rfl
    have x2 : w5.cell? ⟨B10, 2, none⟩ = some (z64 t.d) := (cell_at (i := 2) mt).trans rfl
    obtain ⟨t1, t2, t3, t4⟩ := TR.out w5 cW5
    clear hw5 cA mt c0 c1 c2
    go_wp2_with fail
    refine (HS1.out w5 t1 t2).mono ?_
    rintro e w6 ⟨rfl, k6, rfl⟩
    obtain ⟨_, _, t3, t4⟩ := TR.out (w5.drewN k6) (cW5.drewN _)
    go_wp2_with fail
    refine (HS2.out _ t3 t4).mono ?_
    rintro e w7 ⟨rfl, k7, rfl⟩
    clear t1 t2 t3 t4 x1 x2
    go_wp2_with fail
    have y2 : (w5.drewN (k6 + k7)).heap[B2]? = some (.cells (row32 A) 101 (0, 0)) := m2
    have y3 : (w5.drewN (k6 + k7)).heap[B3]? = some (.cells (row32 B) 102 (0, 0)) := m3
    have g2 := heap_set_far (p := B3) (i := d) (u := c32 (y + 1 : Nat)) (row_set y2 q (x + 1)) h23
    rw [hbA] at g2
    have g3 := row_set (heap_set_far (p := B2) (i := q) (u := c32 (x + 1 : Nat)) y3 h32) d (y + 1)
    rw [hbB] at g3
    have cE : Chg [B2, B3] w4 (((w5.drewN (k6 + k7)).setCell ⟨B2, q, none⟩ (c32 (x + 1 : Nat))).setCell ⟨B3, d, none⟩ (c32 (y + 1 : Nat))) := ((cW5.drewN _).setCell (p := ⟨B2, q, none⟩) (.inl (by simp)) _).setCell (p := ⟨B3, d, none⟩) (.inl (by simp)) _
    refine ⟨⟨i + 1, bump A q, bump B d, by omega, rfl, g2, g3, by rw [length_bump]; exact hAl, by rw [length_bump]; exact hBl, bump_le hAb.out, bump_le hBb.out, HD, cE⟩, by simp [intOf]; omega⟩
  ·obtain rfl : i = ts.length := by omega
   have hRe : Hid ((A, B) = R) := by
    show _ = _
    have := HD.out
    rwa [List.drop_length] at this
   clear HD
   go_wp2_with fail
   have n2' : wr.drew.heap[B2]? = some (.cells (row32 A) 101 (0, 0)) := n2
   have n3' : wr.drew.heap[B3]? = some (.cells (row32 B) 102 (0, 0)) := n3
   have kd : Chg [] w wr.drew := kw.drew
   refine wp_region_held_drew (S := fun w' => w'.heap[B2]? = some (.cells (row32 A) 101 (0, 0)) ∧ w'.heap[B3]? = some (.cells (row32 B) 102 (0, 0))) (by kernel_rfl) ⟨n2', n3'⟩ (fun hHeld => ?_)
   generalize wr.drew = W0 at kd n2' n3' hHeld ⊢
   have sA : (Tryz.prog.info? 101).map (·.size) = some (row32 A).size := by rw [size_row32, hAl]; exact s52.out
   have sB : (Tryz.prog.info? 102).map (·.size) = some (row32 B).size := by rw [size_row32, hBl]; exact s53.out
   refine Pal.held_take (i := 0) (v := .agg (row32 A)) rfl (by kernel_rfl) (by kernel_rfl) (by kernel_rfl) (fun _ _ _ h => h) (Or.inl ⟨by rfl, fun w' hw' => exec_load_row 101 _ rfl B2 rfl 101 (row32 A) (0, 0) _ hw'.1 under52 rfl sA⟩) hHeld ?_
   (try simp only [Act.put, List.setIfInBounds_toArray, List.set_cons_zero, List.set_cons_succ])
   refine Pal.held_take (i := 1) (v := .agg (row32 B)) rfl (by kernel_rfl) (by kernel_rfl) (by kernel_rfl) (fun _ _ _ h => h) (Or.inl ⟨by rfl, fun w' hw' => exec_load_row 102 _ rfl B3 rfl 102 (row32 B) (0, 0) _ hw'.2 under53 rfl sB⟩) hHeld ?_
   (try simp only [Act.put, List.setIfInBounds_toArray, List.set_cons_zero, List.set_cons_succ])
   refine Pal.held_one (i := 2) rfl (by kernel_rfl) (by rfl) (fun K hK => ?_)
   refine wp_store_row 101 _ _ rfl B2 (row32 A) rfl rfl 101 (row32 A) n2' sA rfl (oneCell_row32 A) ?_
   have q2 := setRow_heap W0 B2 _ (row32 A) _ _ n2'
   have q3 := (setRow_other W0 B2 B3 (row32 A) h32).trans n3'
   have kd2 := kd.setRow (g := B2) (.inr hBB.1) (row32 A)
   generalize W0.setRow B2 (row32 A) = W1 at q2 q3 kd2 ⊢
   have hHeld := And.intro q2 q3
   refine hK.out _ _ hHeld ?_
   clear hK K
   refine Pal.held_one (i := 3) rfl (by kernel_rfl) (by rfl) (fun K hK => ?_)
   refine wp_store_row 102 _ _ rfl B3 (row32 B) rfl rfl 102 (row32 B) q3 sB rfl (oneCell_row32 B) ?_
   have p3 := setRow_heap W1 B3 _ (row32 B) _ _ q3
   have p2 := (setRow_other W1 B3 B2 (row32 B) h23).trans q2
   have kd3 := kd2.setRow (g := B3) (.inr hBB.2) (row32 B)
   generalize W1.setRow B3 (row32 B) = W2 at p2 p3 kd3 ⊢
   have hHeld := And.intro p2 p3
   refine hK.out _ _ hHeld ?_
   clear hK K
   refine Pal.held_take (i := 4) (v := ?_) rfl (by kernel_rfl) (by kernel_rfl) (by kernel_rfl) (fun _ _ _ h => h) (Or.inl ⟨by rfl, ?_⟩) hHeld ?_
   rotate_left
   ·(intro w hSw; (try dsimp only at hSw); go_simp)
    first | done | with_reducible rfl
   (try simp only [Act.put, List.setIfInBounds_toArray, List.set_cons_zero, List.set_cons_succ])
   refine wpAnyH_done (by kernel_rfl) ?_ _
   go_wp2_with fail
   refine bodyPost_ret (ret_cct resCounts _ _ B2 B3 101 102 (row32 A) (row32 B) (0, 0) (0, 0) _ _ rfl p2 under52 rfl sA rfl p3 under53 rfl sB rfl) rfl ?_
   refine ⟨?_, kd3⟩
   rw [← hRe.out]
   rfl
end Go.Proofs.YtiijhaajaglabaaGreat.Lz
set_option linter.unusedVariables false
namespace Go.Proofs.YtiijhaajaglabaaGreat
open Go.RowKit Go.ChangeShapes Go.WideShapes Go.ChangeAt Pal Pal.Cd Pal.Df Lz
/-- A writer that holds L: its blocks lie in S or are newer than W; since W only these have changed. -/
def Wx (S : List Nat) (W w : World) (p : Nat) (L : List Nat) : Prop := ∃ g, Wr w p g L ∧ (∀ k ∈ wfp p g, k ∈ S ∨ W.heap.size ≤ k) ∧ Chg S W w
section
variable {S : List Nat} {W w w' : World} {p : Nat} {L : List Nat}
theorem Wn.wx (h : Wn W w p L) : Wx [] W w p L := by
 obtain ⟨g, h1, h2, h3⟩ := h
 exact ⟨g, h1, fun k hk => .inr (h2 k hk), h3⟩
theorem Wx.wn (h : Wx [] W w p L) : Wn W w p L := by
 obtain ⟨g, h1, h2, h3⟩ := h
 exact ⟨g, h1, fun k hk => (h2 k hk).elim (fun h => by cases h) id, h3⟩
theorem Wx.chg (h : Wx S W w p L) : Chg S W w := h.choose_spec.2.2
theorem Wx.still (h : Wx S W w p L) (hc : Chg [] w w') : Wx S W w' p L := by
 obtain ⟨g, h1, h2, h3⟩ := h
 exact ⟨g, h1.keep hc (by simp), h2, h3.trans hc (by simp)⟩
theorem Wx.next {g : Option Nat} (h2 : ∀ k ∈ wfp p g, k ∈ S ∨ W.heap.size ≤ k) (h3 : Chg S W w) (h : ∃ g', Wr w' p g' L ∧ Moved w g g' ∧ Chg (wfp p g) w w') : Wx S W w' p L := by
 obtain ⟨g', a, b, c⟩ := h
 refine ⟨g', a, fun k hk => ?_, h3.trans c h2⟩
 rcases mem_wfp.1 hk with rfl | hk
 ·exact h2 _ (mem_wfp.2 (.inl rfl))
 ·rcases b with rfl | ⟨q, rfl, hq⟩
  ·exact h2 _ (mem_wfp.2 (.inr hk))
  ·obtain rfl : q = k := by simpa using hk
   have := h3.size
   exact .inr (by omega)
theorem wx_put (h : Wx S W w p L) {x n : Nat} (hn : n ≤ 57) (hx : x < 2 ^ n) (hL : L.length ≤ 1099511627776) :
  Calls Tryz.prog 35 #[.pointer (some ⟨p, 0, none⟩), b64 x, z64 n] w fun e w' => e = .returned (z64 0) ∧ Wx S W w' p (L ++ bitsOf x n) := by
 obtain ⟨g, h1, h2, h3⟩ := h
 refine (put_ok p g L x n w h1 (wide_mk hn hx) (Nat.lt_of_lt_of_le hx (Nat.pow_le_pow_right (by omega) (by omega : n ≤ 64))) hL).mono ?_
 rintro e w' ⟨rfl, h⟩
 exact ⟨rfl, Wx.next h2 h3 h⟩
theorem wx_code (h : Wx S W w p L) {x n : Nat} (hn : n ≤ 57) (hx : x < 2 ^ n) (hL : L.length ≤ 1099511627776) :
  Calls Tryz.prog 42 #[.pointer (some ⟨p, 0, none⟩), b64 x, z64 n] w fun e w' => e = .returned (z64 0) ∧ Wx S W w' p (L ++ (bitsOf x n).reverse) := by
 obtain ⟨g, h1, h2, h3⟩ := h
 refine (code_ok p g L x n w h1 (wide_mk hn hx) (Nat.lt_of_lt_of_le hx (Nat.pow_le_pow_right (by omega) (by omega : n ≤ 64))) hL).mono ?_
 rintro e w' ⟨rfl, h⟩
 exact ⟨rfl, Wx.next h2 h3 h⟩
/-- From here on: a base of its own. -/
theorem Wx.base (h : Wx S W w p L) (hc : Chg [] w w') : ∃ S', Wx S' w' w' p L ∧ (∀ k ∈ S', (k ∈ S ∨ W.heap.size ≤ k) ∧ k < w.heap.size) ∧ Chg S W w' := by
 obtain ⟨g, h1, h2, h3⟩ := h
 exact ⟨wfp p g, ⟨g, h1.keep hc (by simp), fun k hk => .inl hk, Chg.refl _ _⟩, fun k hk => ⟨h2 k hk, h1.lt k hk⟩, h3.trans hc (by simp)⟩
/-- And back. -/
theorem Wx.back {S' : List Nat} {w2 : World} (h : Wx S' w' w2 p L) (hS : ∀ k ∈ S', k ∈ S ∨ W.heap.size ≤ k) (hc : Chg S W w') : Wx S W w2 p L := by
 obtain ⟨g, h1, h2, h3⟩ := h
 refine ⟨g, h1, fun k hk => ?_, hc.trans h3 hS⟩
 rcases h2 k hk with h | h
 ·exact hS k h
 ·have := hc.size
  exact .inr (by omega)
end
/-! ### The head -/
abbrev fieldC (f : Nat × Nat) : List Value := [b64 f.1, z64 f.2]
def fieldsC (H : List (Nat × Nat)) : List Value := H.flatMap fieldC
def headB (H : List (Nat × Nat)) : List Nat := H.flatMap fun f => bitsOf f.1 f.2
theorem length_fieldsC (H : List (Nat × Nat)) : (fieldsC H).length = H.length * 2 := by
 induction H with
 | nil => rfl
 | cons f H ih => simp [fieldsC] at ih ⊢; omega
theorem fieldsC_at : ∀ (H : List (Nat × Nat)) (i : Nat) (h : i < H.length), (fieldsC H)[i * 2]? = some (b64 H[i].1) ∧ (fieldsC H)[i * 2 + 1]? = some (z64 H[i].2)
 | f :: H, 0, _ => ⟨rfl, rfl⟩
 | f :: H, i + 1, h => by
  have := fieldsC_at H i (by simpa using h)
  simp only [fieldsC, List.flatMap_cons, List.getElem_cons_succ] at this ⊢
  rw [show (i + 1) * 2 = i * 2 + 1 + 1 by omega]
  exact this
theorem headB_snoc {H : List (Nat × Nat)} {i : Nat} (h : i < H.length) : headB (H.take (i + 1)) = headB (H.take i) ++ bitsOf H[i].1 H[i].2 := by
 rw [List.take_succ_eq_append_getElem h]
 unfold headB
 rw [List.flatMap_append]
 simp
theorem headB_len {H : List (Nat × Nat)} (hw : ∀ f ∈ H, f.2 ≤ 57) : ∀ i, (headB (H.take i)).length ≤ 57 * H.length := by
 have key : ∀ H : List (Nat × Nat), (∀ f ∈ H, f.2 ≤ 57) → (headB H).length ≤ 57 * H.length := by
  intro H
  induction H with
  | nil => intro _; exact Nat.le_refl _
  | cons f H ih =>
   intro hw
   have := ih fun f hf => hw f (by simp [hf])
   have := hw f (by simp)
   simp only [headB, List.flatMap_cons, List.length_append, length_bitsOf, List.length_cons] at *
   omega
 intro i
 have h1 := key (H.take i) fun f hf => hw f (List.mem_of_mem_take hf)
 have h2 : (H.take i).length ≤ H.length := by rw [List.length_take]; omega
 omega
theorem tokB_len {l d : List Int} {t : Tk} (ht : t.ok) (hc : CanT l d t) : (tokB l d t).length ≤ 56 := by
 unfold tokB
 unfold CanT at hc
 split
 ·rename_i h
  rw [if_pos h] at hc
  rw [length_symB]
  have := hc.le
  unfold len
  omega
 ·rename_i h
  rw [if_neg h] at hc
  simp only [List.length_append, length_symB, length_bitsOf]
  have h1 := hc.1.le
  have h2 := hc.2.le
  have h3 := lw_small (lenS t.l) (by have := lenS_le t.l; omega)
  have h4 := dw_small (disS t.d) (by have := disS_le t.d; omega)
  unfold len
  omega
theorem toksB_len {l d : List Int} : ∀ ts : List Tk, (∀ t ∈ ts, t.ok) → (∀ t ∈ ts, CanT l d t) → (ts.flatMap (tokB l d)).length ≤ 56 * ts.length
 | [], _, _ => by simp
 | t :: ts, h1, h2 => by
  have a := toksB_len ts (fun t ht => h1 t (by simp [ht])) (fun t ht => h2 t (by simp [ht]))
  have b := tokB_len (h1 t (by simp)) (h2 t (by simp))
  simp only [List.flatMap_cons, List.length_append, List.length_cons]
  omega
end Go.Proofs.YtiijhaajaglabaaGreat
set_option linter.unusedVariables false
namespace Pal
open Tr
/-- What Huffman's way makes of trees: two least ones are put together. -/
inductive Run : List Tr → Tr → Prop
 | done (t : Tr) : Run [t] t
 | step {ts rest : List Tr} {a b t : Tr} : ts.Perm (a :: b :: rest) → (∀ y ∈ b :: rest, a.cnt ≤ y.cnt) → (∀ y ∈ rest, b.cnt ≤ y.cnt) → Run (node a b :: rest) t → Run ts t
theorem Run.perm {ts ts' : List Tr} {t : Tr} (h : Run ts t) (hp : ts'.Perm ts) : Run ts' t := by
 cases h with
 | done t => rw [List.perm_singleton.1 hp]; exact .done t
 | step h1 h2 h3 h4 => exact .step (hp.trans h1) h2 h3 h4
/-- The symbols that come at all. -/
def leavesAt : Nat → List Nat → List Tr
 | _, [] => []
 | i, n :: cs => if 0 < n then leaf n i :: leavesAt (i + 1) cs else leavesAt (i + 1) cs
theorem leavesAt_snoc (n : Nat) : ∀ (cs : List Nat) (i : Nat), leavesAt i (cs ++ [n]) = leavesAt i cs ++ if 0 < n then [leaf n (i + cs.length)] else []
 | [], i => by simp [leavesAt]
 | m :: cs, i => by
  rw [List.cons_append, leavesAt, leavesAt, leavesAt_snoc n cs (i + 1), List.length_cons, show i + 1 + cs.length = i + (cs.length + 1) by omega]
  split <;> simp
theorem leavesAt_mem : ∀ (cs : List Nat) (i : Nat), ∀ t ∈ leavesAt i cs, ∃ n s, t = leaf n s ∧ i ≤ s ∧ s < i + cs.length ∧ 0 < n ∧ cs[s - i]? = some n
 | [], i, t, h => by simp [leavesAt] at h
 | m :: cs, i, t, h => by
  rw [leavesAt] at h
  have key : t ∈ leavesAt (i + 1) cs → ∃ n s, t = leaf n s ∧ i ≤ s ∧ s < i + (m :: cs).length ∧ 0 < n ∧ (m :: cs)[s - i]? = some n := fun h => by
   obtain ⟨n, s, h1, h2, h3, h4, h5⟩ := leavesAt_mem cs (i + 1) t h
   refine ⟨n, s, h1, by omega, by simp; omega, h4, ?_⟩
   rw [show s - i = (s - (i + 1)) + 1 by omega, List.getElem?_cons_succ]
   exact h5
  by_cases hm : 0 < m
  ·rw [if_pos hm] at h
   rcases List.mem_cons.1 h with rfl | h
   ·exact ⟨m, i, rfl, Nat.le_refl _, by simp, hm, by simp⟩
   ·exact key h
  ·rw [if_neg hm] at h
   exact key h
theorem length_leavesAt : ∀ (cs : List Nat) (i : Nat), (leavesAt i cs).length ≤ cs.length
 | [], i => by simp [leavesAt]
 | m :: cs, i => by
  rw [leavesAt]
  have := length_leavesAt cs (i + 1)
  split <;> simp <;> omega
/-- Which lengths Plain may tell. -/
def Huff (cs l : List Nat) : Prop :=
 (leavesAt 0 cs = [] ∧ l = List.replicate cs.length 0) ∨ (∃ n s, leavesAt 0 cs = [leaf n s] ∧ l = (List.replicate cs.length 0).set s 1) ∨ (2 ≤ (leavesAt 0 cs).length ∧ ∃ t, Run (leavesAt 0 cs) t ∧ l = t.lay 0 (List.replicate cs.length 0))
/-- What is turned in what a list says is turned in the list. -/
theorem perm_lift {α β : Type} {f : α → β} : ∀ {l' l : List β}, l'.Perm l → ∀ F : List α, F.map f = l → ∃ F2 : List α, F2.Perm F ∧ F2.map f = l' := by
 intro l' l h
 induction h with
 | nil => intro F hF; exact ⟨F, List.Perm.refl _, hF⟩
 | cons x _ ih =>
  intro F hF
  obtain ⟨a, F1, rfl, rfl, hF1⟩ := List.map_eq_cons_iff.1 hF
  obtain ⟨F2, h1, h2⟩ := ih F1 hF1
  exact ⟨a :: F2, h1.cons a, by simp [h2]⟩
 | swap x y l =>
  intro F hF
  obtain ⟨a, F1, rfl, rfl, hF1⟩ := List.map_eq_cons_iff.1 hF
  obtain ⟨b, F2, rfl, rfl, hF2⟩ := List.map_eq_cons_iff.1 hF1
  exact ⟨b :: a :: F2, List.Perm.swap _ _ _, by simp [hF2]⟩
 | trans _ _ ih1 ih2 =>
  intro F hF
  obtain ⟨F1, h1, h2⟩ := ih2 F hF
  obtain ⟨F2, h3, h4⟩ := ih1 F1 h2
  exact ⟨F2, h3.trans h1, h4⟩
end Pal
namespace Go.Proofs.YtiijhaajaglabaaGreat
open Go.RowKit Pal Pal.Hp
/-- The count that a tree's block tells. -/
def cOf (w : World) (x : Nat) : Nat := match w.cell? ⟨x, 0, none⟩ with | some (.int _ n) => n.toNat | _ => 0
theorem Tm.cOf {w : World} {S : List Nat} {t : Tr} {x : Nat} (h : Tm w S t x) : cOf w x = t.cnt := by
 unfold Go.Proofs.YtiijhaajaglabaaGreat.cOf
 rw [h.cnt]
 simp
theorem Tm.move {S S' S0 : List Nat} {w w' : World} {t : Tr} {x : Nat} (h : Tm w S t x) (hc : Chg S0 w w') (h0 : ∀ k ∈ S0, k ∈ S) (h1 : ∀ k ∈ S', k ∈ S ∨ w.heap.size ≤ k) : Tm w' S' t x := by
 have a : Tm w (S ++ S') t x := h.mono fun k hk => by
  rcases List.mem_append.1 hk with hk | hk
  ·exact .inl hk
  ·exact h1 k hk
 have b : Tm w' (S ++ S') t x := a.keep hc fun k hk => List.mem_append_left _ (h0 k hk)
 exact b.mono fun k hk => .inl (List.mem_append_right _ hk)
/-- While Plain works: the list of trees, their blocks; the lengths. -/
structure Pf (W w : World) (P G n cap : Nat) (tv : Value) (F : List (Nat × Tr)) (l : List Nat) : Prop where
 box : w.heap[P]? = some (.cells #[tv] 196 (0, 0))
 own : Own w 197 1 tv F.length (F.map fun e => tp e.1)
 tm : ∀ e ∈ F, Tm w (P :: G :: tv.ownBlock.toList) e.2 e.1
 lown : Own w 3 1 (.slice (some ⟨G, 0, none⟩) n cap) n (zL l)
 pg : P ≠ G
 vp : tv.ownBlock ≠ some P
 vg : tv.ownBlock ≠ some G
 np : W.heap.size ≤ P
 ng : W.heap.size ≤ G
 nt : New W tv
 chg : Chg [] W w
/-- While the heap is at work: at least one tree. -/
structure Ph (W w : World) (P G n cap g gc : Nat) (F : List (Nat × Tr)) (l : List Nat) : Prop where
 hb : Hb w P g gc (F.map Prod.fst)
 tm : ∀ e ∈ F, Tm w [P, G, g] e.2 e.1
 lown : Own w 3 1 (.slice (some ⟨G, 0, none⟩) n cap) n (zL l)
 pg : P ≠ G
 gg : g ≠ G
 np : W.heap.size ≤ P
 ng : W.heap.size ≤ G
 nt : W.heap.size ≤ g
 chg : Chg [] W w
theorem Pf.ph {W w : World} {P G n cap : Nat} {tv : Value} {F : List (Nat × Tr)} {l : List Nat} (h : Pf W w P G n cap tv F l) (hF : 0 < F.length) : ∃ g gc, tv = slT g F.length gc ∧ Ph W w P G n cap g gc F l := by
 obtain ⟨g, gc, rfl, hg⟩ := own_form h.own hF
 refine ⟨g, gc, rfl, ⟨?_, ?_, fun e => h.vp (by rw [e]; rfl)⟩, h.tm, h.lown, h.pg, fun e => h.vg (by rw [e]; rfl), h.np, h.ng, h.nt g rfl, h.chg⟩
 ·rw [List.length_map]; exact h.box
 ·rw [List.length_map, List.map_map]; exact h.own
theorem Ph.tc {W w : World} {P G n cap g gc : Nat} {F : List (Nat × Tr)} {l : List Nat} (h : Ph W w P G n cap g gc F l) : Tc w P g (cOf w) (F.map Prod.fst) := fun x hx => by
 obtain ⟨e, he, rfl⟩ := List.mem_map.1 hx
 have h1 := h.tm e he
 have h2 := h1.out
 simp at h2
 exact ⟨h2.1, h2.2.2, by rw [h1.cOf]; exact h1.cnt⟩
/-- The heap has been at work: the same trees, otherwise. -/
theorem Ph.turn {W w w' : World} {P G n cap g gc : Nat} {F : List (Nat × Tr)} {l : List Nat} {L' : List Nat} (h : Ph W w P G n cap g gc F l) (hp : L'.Perm (F.map Prod.fst)) (hb : Hb w' P g gc L') (hc : Chg [P, g] w w') :
  ∃ F2, F2.Perm F ∧ F2.map Prod.fst = L' ∧ Ph W w' P G n cap g gc F2 l := by
 obtain ⟨F2, h1, h2⟩ := perm_lift hp F rfl
 refine ⟨F2, h1, h2, by rw [h2]; exact hb, fun e he => (h.tm e (h1.mem_iff.1 he)).keep hc (fun k hk => by simp at hk ⊢; omega), ?_, h.pg, h.gg, h.np, h.ng, h.nt, ?_⟩
 ·exact hc.owns h.lown (fun k hk => by have := h.pg; have := h.gg; simp [Value.ownBlock] at hk; subst hk; simp; omega)
 ·exact h.chg.trans hc (fun k hk => .inr (by have := h.np; have := h.nt; simp at hk; omega))
/-- The trees' counts, by places. -/
def fT (F : List (Nat × Tr)) : Nat → Nat := fun k => (F.map fun e => e.2.cnt).getD k 0
theorem fT_of {w : World} {S : List Nat} {F : List (Nat × Tr)} (h : ∀ e ∈ F, Tm w S e.2 e.1) {k : Nat} (hk : k < F.length) : fL (cOf w) (F.map Prod.fst) k = fT F k := by
 unfold fL fT
 rw [List.getD_eq_getElem?_getD, List.getD_eq_getElem?_getD, List.getElem?_map, List.getElem?_map, List.getElem?_eq_getElem hk]
 exact (h _ (List.getElem_mem hk)).cOf
/-- How many trees the list's variable tells. -/
def lenAt (w : World) (P : Nat) : Nat := match w.cell? ⟨P, 0, none⟩ with | some (.slice _ n _) => n | _ => 0
theorem lenAt_of {w : World} {P : Nat} {ao : Option Addr} {n cap : Nat} (h : w.cell? ⟨P, 0, none⟩ = some (.slice ao n cap)) : lenAt w P = n := by
 unfold lenAt
 rw [h]
theorem Ph.len {W w : World} {P G n cap g gc : Nat} {F : List (Nat × Tr)} {l : List Nat} (h : Ph W w P G n cap g gc F l) : lenAt w P = F.length := by
 have := lenAt_of h.hb.cellp
 rw [this, List.length_map]
end Go.Proofs.YtiijhaajaglabaaGreat
