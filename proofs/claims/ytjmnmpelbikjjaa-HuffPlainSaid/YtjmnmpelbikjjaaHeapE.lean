/- A heap of trees: Init. -/
import Derived.Test.YtjmnmpelbikjjaaHeapD
set_option linter.unusedVariables false
namespace Go.Proofs.Ytjmnmpelbikjjaa
open Go.RowKit Pal Pal.Hp
set_option maxRecDepth 100000 in
set_option maxHeartbeats 4000000 in
theorem init_ts {w : World} {p g cap : Nat} {L : List Nat} {c : Nat → Nat} (h : Hb w p g cap L) (ht : Tc w p g c L) (h0 : 0 < L.length) (hn : L.length ≤ 1000) :
    Calls Try.prog 51 #[ifT p] w fun e w' => e = .returned (.tuple #[]) ∧ Risen w p g cap L c w' := by
  have HH := Pal.hid h
  have HT := Pal.hid ht
  have hml := h.mLen
  have HLEN := Pal.hid (len_ts w g L.length cap)
  obtain ⟨n, hnn⟩ : ∃ n, n = L.length := ⟨_, rfl⟩
  have HN := Pal.hid hnn
  rw [← hnn] at hml HLEN
  rw [← hnn] at h0 hn
  obtain ⟨hf, hhf⟩ : ∃ hf, hf = n / 2 := ⟨_, rfl⟩
  have hw1 : (n : Int) / 2 = (hf : Int) := by omega
  have hwi : IntKind.i64.wrap ((hf : Int) - 1) = (hf : Int) - 1 := IntWalk.i64_in _ (by omega)
  have hhb : hf ≤ n := by omega
  have HHF : Hid (n < 2 * hf + 2) := Pal.hid (by omega)
  clear h ht hnn hhf
  go_enter Try.func51, Try.ntmps51
  go_wp2_with fail
  go_at_call 109
  refine HLEN.out.mono ?_
  rintro e w2 ⟨rfl, rfl⟩
  clear hml
  go_wp2_with fail
  clear hwi hw1
  go_loopw [3] (fun iv wr => ∃ (i : Nat) (L1 : List Nat), iv = z64 ((i : Int) - 1) ∧ Hid (i ≤ hf) ∧ Hid (L1.Perm L) ∧ Hid (Heap n i (fL c L1)) ∧ Hid (Hb wr p g cap L1) ∧ Hid (Chg [g] w2 wr)) (fun iv _ => (intOf iv + 1).toNat)
  case atStart => exact ⟨hf, L, by first | rfl | trivial, Pal.hid (Nat.le_refl _), Pal.hid (List.Perm.refl _), Pal.hid (fun q ch h1 h2 h3 => by have := HHF.out; unfold Ch at h2; omega), HH, Pal.hid (Chg.refl _ _)⟩
  case round =>
    obtain ⟨i, L1, rfl, HI, HP, HHP, HB, HC⟩ := hrel
    have hii := HI.out
    have hl1 : L1.length = n := by rw [HP.out.length_eq]; exact HN.out.symm
    by_cases hi0 : 0 < i
    · obtain ⟨i1, rfl⟩ : ∃ i1, i = i1 + 1 := ⟨i - 1, by omega⟩
      have HT1 : Hid (Tc wr p g c L1) := Pal.hid (HT.out.keep HC.out (by simp) (fun x hx => HP.out.mem_iff.1 hx))
      have HCALL := Pal.hid (down_ts HB.out HT1.out i1 n (by omega) (by omega) (Down.init HHP.out) (by omega))
      have e1 : ((i1 + 1 : Nat) : Int) - 1 = (i1 : Int) := by omega
      rw [e1]
      have hwd : IntKind.i64.wrap ((i1 : Int) - 1) = (i1 : Int) - 1 := IntWalk.i64_in _ (by omega)
      clear hl1 e1
      go_wp2_with fail
      refine HCALL.out.mono ?_
      rintro e w3 ⟨⟨b, rfl⟩, L2, hp2, -, hh2, hb2, hc2⟩
      have HP2 := Pal.hid (hp2.trans HP.out)
      have HH2 := Pal.hid hh2
      have HB2 := Pal.hid hb2
      have HC2 := Pal.hid (HC.out.trans hc2 (fun k hk => .inl hk))
      clear hp2 hh2 hb2 hc2
      go_wp2_with fail
      exact ⟨⟨i1, L2, by first | rfl | trivial, Pal.hid (by omega), HP2, HH2, HB2, HC2⟩, by simp [intOf]⟩
    · obtain rfl : i = 0 := by omega
      have HF : Hid (Risen w2 p g cap L c wr) := Pal.hid ⟨L1, HP.out, by rw [← HN.out]; exact HHP.out, HB.out, HC.out⟩
      clear hl1
      go_wp2_with fail
      go_end0
      exact ⟨rfl, HF.out⟩
end Go.Proofs.Ytjmnmpelbikjjaa
