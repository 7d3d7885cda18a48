/- RegionsApart: its walk. -/
import Derived.Test.YtlmablpekedcfaaRgApartA
import Derived.StillTailTactics
import Derived.Deep.CutRange
set_option linter.unusedVariables false
namespace Go.Proofs.Ytlmablpekedcfaa
open Go.RowKit Go.ChangeShapes Go.WideShapes Go.ChangeAt Pal Pal.Rg

attribute [local go_sem] Oper.semAt_some

/-- What All and Gaps have laid. -/
def Freed (w0 wx : World) (L : List Reg) (u : Int) (s15 s16 : Value) : Prop := ∃ B b2 U N A B3 b3 : Nat, s15 = seqV 56 B ∧ s16 = gapsV U N A ∧ Seq wx B b2 L ∧ Seq wx B3 b3 L ∧ wx.heap[U]? = some (.cells #[z64 u] 2 (0, 0)) ∧ wx.heap[N]? = some (.cells #[.bool false] 4 (0, 0)) ∧ wx.heap[A]? = some (.cells #[seqV 56 B3] 43 (0, 0)) ∧ Chg [] w0 wx ∧ w0.heap.size ≤ B ∧ w0.heap.size ≤ b2 ∧ (w0.heap.size ≤ B3 ∧ w0.heap.size ≤ b3 ∧ w0.heap.size ≤ U ∧ w0.heap.size ≤ N ∧ w0.heap.size ≤ A)
theorem Seq.blk {w : World} {B b : Nat} {L : List Reg} (h : Seq w B b L) : B < w.heap.size ∧ b < w.heap.size := by
  obtain ⟨v, h1, _, _, h2, _⟩ := h
  exact ⟨lt_heap h1, h2⟩
theorem chg_set3 {w w' : World} (h : Chg [] w w') (x y z : Value) : Chg [] w (((w'.setCell ⟨w.heap.size, 0, none⟩ x).setCell ⟨w.heap.size, 1, none⟩ y).setCell ⟨w.heap.size, 2, none⟩ z) :=
  ((h.setCell (p := ⟨w.heap.size, 0, none⟩) (.inr (Nat.le_refl _)) x).setCell (p := ⟨w.heap.size, 1, none⟩) (.inr (Nat.le_refl _)) y).setCell (p := ⟨w.heap.size, 2, none⟩) (.inr (Nat.le_refl _)) z

set_option maxRecDepth 100000 in
set_option maxHeartbeats 8000000 in
theorem apart_main (ao : Option Addr) (cap : Nat) (l : List Reg) (n s : Int) (w : World) (hrd : Rd w 3 (.slice ao l.length cap) l.length (regC l)) (h60 : l.length ≤ 60) (hn : Wd n) (hs : Wd s) :
    Calls Try.prog 4 #[.slice ao l.length cap, z64 n, z64 s] w fun e w' => e = .returned (.bool true) ∧ Chg [] w w' := by
  have HW := Pal.hid (fun (wx : World) => works_any wx)
  have hg : ¬ (60 : Int) < l.length := by omega
  have hgd : decide ((60 : Int) < l.length) = false := by simpa using hg
  have HRD := Pal.hid hrd
  have HVB := Pal.hid (rd_blk hrd)
  clear hrd
  refine (callsIn_wide (n := 6)).1 ?_
  refine callsIn_of_wp_marks Try.func4 rfl trivial ?_ rfl
  simp only [Try.ntmps4, List.size_toArray, List.length_cons, List.length_nil, Nat.reduceAdd, Nat.reduceSub, Array.replicate_succ, Array.replicate_zero, List.push_toArray, List.append_toArray, List.nil_append, List.cons_append]
  refine wpIn_wide.2 ?_
  generalize hQ : bodyPostM Fence.wide 6 Try.prog Try.f4 (fun e w' => e = .returned (.bool true) ∧ Chg [] w w') = Q
  have HQ := Pal.hid hQ
  clear hQ
  go_wp2_with fail
  refine (new_rg _).mono ?_
  rintro e w1 ⟨p, c0, rfl, hr, hc, hp, hc0⟩
  have s6 : Boxed w1 w.heap.size 4 (.bool false) := hc.heap (heap_new _ _) (by simp)
  have HC1 := Pal.hid (((Chg.refl [] w).alloc _).trans hc (by simp))
  have hpl := hr.lt
  have hcl := hr.blt
  have HR := Pal.hid hr
  rw [World.size_alloc] at hp hc0
  clear hr hc
  go_wp2_with fail
  have s7 : Boxed ((w1.alloc (.cells #[.pointer (some ⟨p, 0, none⟩)] 26)).alloc (.cells #[z64 0] 2)) w1.heap.size 26 (.pointer (some ⟨p, 0, none⟩)) := (Boxed.new _ _ _).alloc _
  have s8 : Boxed ((w1.alloc (.cells #[.pointer (some ⟨p, 0, none⟩)] 26)).alloc (.cells #[z64 0] 2)) (w1.heap.size + 1) 2 (z64 0) := by
    have := Boxed.new (w1.alloc (.cells #[.pointer (some ⟨p, 0, none⟩)] 26)) 2 (z64 0)
    rw [World.size_alloc] at this
    exact this
  have c2 : Chg [] w1 ((w1.alloc (.cells #[.pointer (some ⟨p, 0, none⟩)] 26)).alloc (.cells #[z64 0] 2)) := ((Chg.refl _ _).alloc _).alloc _
  have z2 : ((w1.alloc (.cells #[.pointer (some ⟨p, 0, none⟩)] 26)).alloc (.cells #[z64 0] 2)).heap.size = w1.heap.size + 2 := by simp
  obtain ⟨w2, hw2⟩ : ∃ x, x = (w1.alloc (.cells #[.pointer (some ⟨p, 0, none⟩)] 26)).alloc (.cells #[z64 0] 2) := ⟨_, rfl⟩
  rw [← hw2] at s7 s8 c2 z2 ⊢
  obtain ⟨b6, hb6⟩ : ∃ x, x = w.heap.size := ⟨_, rfl⟩
  obtain ⟨b7, hb7⟩ : ∃ x, x = w1.heap.size := ⟨_, rfl⟩
  obtain ⟨b8, hb8⟩ : ∃ x, x = w1.heap.size + 1 := ⟨_, rfl⟩
  rw [← hb6] at s6
  rw [← hb7] at s7
  rw [← hb8] at s8
  rw [← hb8, ← hb7, ← hb6]
  have s6 : Boxed w2 b6 4 (.bool false) := c2.heap s6 (by simp)
  have HR2 := Pal.hid (HR.out.keep c2 (by simp) (by simp))
  have HC2 := Pal.hid (HC1.out.trans c2 (by simp))
  have hord : w.heap.size ≤ b6 ∧ b6 < p ∧ p < b7 ∧ b7 < b8 ∧ b8 < w2.heap.size ∧ b6 < c0 ∧ c0 < b7 := by omega
  obtain ⟨o1, o2, o3, o4, o5, o6, o7⟩ := hord
  clear hw2 hb6 hb7 hb8 c2 z2 hp hc0 hpl hcl
  have S6 := Pal.hid s6
  have S7 := Pal.hid s7
  have S8 := Pal.hid s8
  clear s6 s7 s8
  go_loopw [9] (fun iv wr => ∃ (i c1 : Nat) (R : List Reg), i ≤ l.length ∧ iv = z64 i ∧ Rs wr p c1 R ∧ R.length ≤ i ∧ Boxed wr b8 2 (z64 (lenS R)) ∧ Chg [p, b8] w2 wr ∧ b6 < c1 ∧ c1 ≠ b7 ∧ c1 ≠ b8) (fun iv _ => l.length - (intOf iv).toNat)
  case atStart => exact ⟨0, c0, [], Nat.zero_le _, rfl, HR2.out, Nat.le_refl _, S8.out, Chg.refl _ _, o6, by omega, by omega⟩
  case round =>
    obtain ⟨i, c1, R, hi, rfl, hR, hRi, s8, hch, q1, q2, q3⟩ := hrel
    have s7 : Boxed wr b7 26 (.pointer (some ⟨p, 0, none⟩)) := hch.heap S7.out (by simp; omega)
    have hrs := hR.lt
    have hcs := hR.blt
    have hsz := hch.size
    obtain ⟨hok, hlR⟩ := hR.ok
    have HOK := Pal.hid hok
    have HRr := Pal.hid hR
    have HCH := Pal.hid hch
    have S7r := Pal.hid s7
    have S8r := Pal.hid s8
    have HRD2 := Pal.hid (HRD.out.keep (HC2.out.trans hch (by simp; omega)) (by simp))
    clear hok hR hch s7 s8
    by_cases hlt : i < l.length
    · have hlti : (i : Int) < l.length := by omega
      -- FAST{
      have hwi : IntKind.i64.wrap ((i : Int) + 1) = ((i + 1 : Nat) : Int) := IntWalk.i64_in _ (by omega)
      obtain ⟨vb, off, cb1, hv, hmc, hblt, hcell⟩ := HRD2.out.at (by rw [length_regC]; omega)
      simp only [Value.slice.injEq] at hv
      obtain ⟨rfl, _, rfl⟩ := hv
      obtain ⟨d0, d1, d2⟩ := regC_cells hcell hlt
      have hvw : vb < w.heap.size := HVB.out vb rfl (by omega)
      generalize l[i] = X at d0 d1 d2
      obtain ⟨xk, xa, xn⟩ := X
      dsimp only at d0 d1 d2
      have HMY := Pal.hid (refmay_any xk xa xn wr)
      have l7 : b7 < wr.heap.size := by omega
      have l8 : b8 < wr.heap.size := by omega
      clear hcell
      by_cases hm : May (xk, xa, xn)
      · have hmb : mayB (xk, xa, xn) = true := by simp [mayB, hm]
        rw [hmb] at HMY
        clear hmb
        go_wp2_with fail
        refine HMY.out.mono ?_
        rintro e w3 ⟨rfl, hc3⟩
        have d0 := hc3.cell d0 (by simp)
        have d1 := hc3.cell d1 (by simp)
        have d2 := hc3.cell d2 (by simp)
        have x7 := hc3.cell S7r.out.cell (by simp)
        have hs3 := hc3.size
        have l7 : b7 < w3.heap.size := by omega
        have lv : vb < w3.heap.size := by omega
        have HR3 := Pal.hid (HRr.out.keep hc3 (by simp) (by simp))
        have HC3 := Pal.hid hc3
        clear hc3
        have hask := fun (wx : World) (hc : Chg [] w3 wx) => ask_rg (HR3.out.keep hc (by simp) (by simp)) xa xn (.slice none 0 0) [] (rd_none _ _) (by simp)
        rw [askR_all (room_may hm)] at hask
        have hisl := ask_lies HOK.out (a := xa) (n := xn) (by unfold May at hm; exact hm.2.1)
        have hask2 : ∀ wx, Chg [] w3 wx → Calls Try.prog 13 #[.pointer (some ⟨p, 0, none⟩), z64 xa, z64 xn, .slice none 0 0] wx fun e w' => ∃ x : Reg, e = .returned (.tuple #[regV x, .bool (lies R xa xn), z64 0]) ∧ Chg [] wx w' := by
          intro wx hc
          refine (hask wx hc).mono ?_
          rintro e w' ⟨rfl, h⟩
          exact ⟨_, by rw [← hisl], h⟩
        have HASK := Pal.hid hask2
        have HS := Pal.hid (fun (wx : World) (hc : Chg [] w3 wx) => And.intro (hc.cell x7 (by simp)) (And.intro (hc.cell d1 (by simp)) (hc.cell d2 (by simp))))
        have HSZ := Pal.hid (fun (wx : World) (hc : Chg [] w3 wx) => hc.size)
        clear hask hisl hask2
        go_upto_region 11 with fail
        go_cut [11, 12] from 47 to 109 (fun s11 s12 wx => s11 = .bool (lies R xa xn) ∧ s12 = z64 0 ∧ Chg [] w3 wx)
        case first =>
          go_region_held3 (fun wx => wx.cell? ⟨b7, 0, none⟩ = some (.pointer (some ⟨p, 0, none⟩)) ∧ wx.cell? ⟨vb, off + i * 3 + 1, none⟩ = some (z64 xa) ∧ wx.cell? ⟨vb, off + i * 3 + 2, none⟩ = some (z64 xn)) (first | exact HS.out _ (Chg.refl _ _).drew | exact HS.out _ hc4 | exact HS.out _ (hc4.alloc _) | exact HS.out _ (chg_set3 hc4 _ _ _) | exact HS.out _ ((Chg.refl _ _).drew.alloc _) | exact HS.out _ ((Chg.refl _ _).alloc _).drew)
            (first | (go_at_call 13; refine Calls.mono (HASK.out _ ?_) ?_; exact ((Chg.refl _ _).alloc _).drew; rintro e w4 ⟨⟨x1, x2, x3⟩, rfl, hc4⟩; have ha : w4.heap[w3.heap.size]? = some (.cells #[z64 0, z64 0, z64 0] 31 (0, 0)) := hc4.heap (heap_new w3 _) (by simp); have hc4 : Chg [] w3 w4 := ((Chg.refl _ _).alloc _).drew.trans hc4 (by simp); have a0 : w4.cell? ⟨w3.heap.size, 0, none⟩ = some (z64 0) := (cell_at (i := 0) ha).trans rfl; have a1 : w4.cell? ⟨w3.heap.size, 1, none⟩ = some (z64 0) := (cell_at (i := 1) ha).trans rfl; have a2 : w4.cell? ⟨w3.heap.size, 2, none⟩ = some (z64 0) := (cell_at (i := 2) ha).trans rfl; have af : ∀ i, w4.frozen? ⟨w3.heap.size, i, none⟩ = false := fun i => free_at ha; have al := lt_heap ha) | (go_at_call 13; refine Calls.mono (HASK.out _ ?_) ?_; exact (Chg.refl _ _).drew; rintro e w4 ⟨⟨x1, x2, x3⟩, rfl, hc4⟩; have hc4 : Chg [] w3 w4 := (Chg.refl _ _).drew.trans hc4 (by simp)))
          all_goals
            go_wp2_with fail
            go_meet
            first | exact ⟨rfl, rfl, hc4.alloc _⟩ | exact ⟨rfl, rfl, chg_set3 hc4 _ _ _⟩
        case rest =>
          obtain ⟨rfl, rfl, hcw⟩ := hcut
          have d0 := hcw.cell d0 (by simp)
          have d1 := hcw.cell d1 (by simp)
          have d2 := hcw.cell d2 (by simp)
          have x7 := hcw.cell x7 (by simp)
          have hsc := hcw.size
          have l7 : b7 < wc.heap.size := by omega
          have lv : vb < wc.heap.size := by omega
          have HRc := Pal.hid (HR3.out.keep hcw (by simp) (by simp))
          have HCc := Pal.hid (HC3.out.trans hcw (by simp))
          have ca : Chg [] wc (wc.alloc (.cells #[z64 xk, z64 xa, z64 xn] 31)).drew := ((Chg.refl _ _).alloc _).drew
          have hpu := put_rg (HRc.out.keep ca (by simp) (by simp)) (.slice (some ⟨wc.heap.size, 0, none⟩) 1 1) [(xk, xa, xn)] (Rd.one (heap_dr (heap_new _ _)) rfl) (fun k hk => by have := HRc.out.lt; simp [slBlock] at hk; omega) (by simp)
          rw [puts_may hm (by omega)] at hpu
          have HS2 := Pal.hid (fun (wx : World) (hc : Chg [] wc wx) => And.intro (hc.cell x7 (by simp)) (And.intro (hc.cell d0 (by simp)) (And.intro (hc.cell d1 (by simp)) (hc.cell d2 (by simp)))))
          have HS3 := Pal.hid (fun (wx : World) (hc : Chg [p] wc wx) => And.intro (hc.cell x7 (by simp; omega)) (And.intro (hc.cell d0 (by simp; omega)) (And.intro (hc.cell d1 (by simp; omega)) (hc.cell d2 (by simp; omega)))))
          have hlb := lenS_putL R (xk, xa, xn)
          simp only [st, ln] at hpu hlb
          have HLB := Pal.hid hlb
          have HMAY := Pal.hid hm
          have HLI := Pal.hid (fun (h : lies R xa xn = false) => putL_ok (x := (xk, xa, xn)) HOK.out hm h)
          clear hcw hm hlb HMY HS
          cases hlz : lies R xa xn with
          | true =>
            rw [hlz, if_pos rfl] at hpu
            have HPUT := Pal.hid hpu
            have CA := Pal.hid ca
            clear hpu ca hlz
            go_wp2_with fail
            go_region_held3 (fun wx => wx.cell? ⟨b7, 0, none⟩ = some (.pointer (some ⟨p, 0, none⟩)) ∧ wx.cell? ⟨vb, off + i * 3, none⟩ = some (z64 xk) ∧ wx.cell? ⟨vb, off + i * 3 + 1, none⟩ = some (z64 xa) ∧ wx.cell? ⟨vb, off + i * 3 + 2, none⟩ = some (z64 xn)) (first | exact HS2.out _ (Chg.refl _ _).drew | exact HS2.out _ CA.out | exact HS3.out _ hc5) (first | (go_at_call 11; refine HPUT.out.mono ?_; rintro e w5 ⟨b5, rfl, hr5, hc5, hb5⟩; have hc5 : Chg [p] wc w5 := (CA.out.mono (by simp)).trans hc5 (by simp)))
            have hb5 : b5 = c1 ∨ wc.heap.size ≤ b5 := hb5.imp id (Nat.le_trans CA.out.size)
            have hcx : Chg [p] wr w5 := (HCc.out.mono (by simp)).trans hc5 (by simp)
            have s85 : Boxed w5 b8 2 (z64 (lenS R)) := hcx.heap S8r.out (by simp; omega)
            have HCX := Pal.hid (HCH.out.trans hcx (by simp))
            have HR5 := Pal.hid hr5
            have hs5 := hcx.size
            have x5 := HS3.out _ hc5
            obtain ⟨x7, d0, d1, d2⟩ := x5
            have hb5l := hr5.blt
            have l7 : b7 < w5.heap.size := by omega
            have lv : vb < w5.heap.size := by omega
            clear hc5 hcx hr5
            have S85 := Pal.hid s85
            clear s85 hb5l
            go_wp2_with (go_at_call 12; refine (num_rg _ _).mono ?_; rintro e w' ⟨rfl, rfl⟩)
            exact ⟨⟨i + 1, b5, R, by omega, rfl, HR5.out, by omega, S85.out, HCX.out, by omega, by omega, by omega⟩, by simp [intOf]; omega⟩
          | false =>
            rw [hlz, if_neg (by decide)] at hpu
            have HPUT := Pal.hid hpu
            have CA := Pal.hid ca
            clear hpu ca
            go_wp2_with fail
            go_region_held3 (fun wx => wx.cell? ⟨b7, 0, none⟩ = some (.pointer (some ⟨p, 0, none⟩)) ∧ wx.cell? ⟨vb, off + i * 3, none⟩ = some (z64 xk) ∧ wx.cell? ⟨vb, off + i * 3 + 1, none⟩ = some (z64 xa) ∧ wx.cell? ⟨vb, off + i * 3 + 2, none⟩ = some (z64 xn)) (first | exact HS2.out _ (Chg.refl _ _).drew | exact HS2.out _ CA.out | exact HS3.out _ hc5) (first | (go_at_call 11; refine HPUT.out.mono ?_; rintro e w5 ⟨b5, rfl, hr5, hc5, hb5⟩; have hc5 : Chg [p] wc w5 := (CA.out.mono (by simp)).trans hc5 (by simp)))
            have hb5 : b5 = c1 ∨ wc.heap.size ≤ b5 := hb5.imp id (Nat.le_trans CA.out.size)
            have hcx : Chg [p] wr w5 := (HCc.out.mono (by simp)).trans hc5 (by simp)
            have s85 : Boxed w5 b8 2 (z64 (lenS R)) := hcx.heap S8r.out (by simp; omega)
            have HCX := Pal.hid (HCH.out.trans hcx (by simp))
            have HR5 := Pal.hid hr5
            have hs5 := hcx.size
            have x5 := HS3.out _ hc5
            obtain ⟨x7, d0, d1, d2⟩ := x5
            have hb5l := hr5.blt
            have l7 : b7 < w5.heap.size := by omega
            have lv : vb < w5.heap.size := by omega
            clear hc5 hcx hr5
            have x8 := s85.cell
            have f8 := s85.frozen
            have l8 : b8 < w5.heap.size := s85.lt
            have hle := (lenS_le (a := 0) (HLI.out hlz) (fun x hx => by have := (HLI.out hlz).1 x hx; unfold May at this; exact this.2.2.1) (by decide))
            have hle0 := (lenS_le (a := 0) HOK.out (fun x hx => by have := HOK.out.1 x hx; unfold May at this; exact this.2.2.1) (by decide))
            rw [HLB.out] at hle
            have S85 := Pal.hid s85
            clear hlz s85
            generalize lenS R = LR at *
            have hwl : IntKind.i64.wrap (LR + xn) = LR + xn := IntWalk.i64_in _ (by simp only [maxP] at *; omega)
            go_wp2_with (go_at_call 12; refine (num_rg _ _).mono ?_; rintro e w' ⟨rfl, rfl⟩)
            go_still_tail 7, (by kernel_rfl)
            change wpList _ _ _ _ _ w5.drew
            have sx := (S85.out : Boxed w5.drew b8 2 (z64 LR)).set (z64 (LR + xn))
            have hcy : Chg [p, b8] w2 (w5.drew.setCell ⟨b8, 0, none⟩ (z64 (LR + xn))) := (HCX.out.drew).setCell (.inl (by simp)) _
            have hcz : Chg [b8] w5 (w5.drew.setCell ⟨b8, 0, none⟩ (z64 (LR + xn))) := ((Chg.refl [b8] w5).drew).setCell (.inl (by simp)) _
            have HRZ := Pal.hid (HR5.out.keep hcz (by simp; omega) (by simp; omega))
            have HCY := Pal.hid hcy
            have HSX := Pal.hid sx
            have HSUM : Hid (lenS (putL R (xk, xa, xn)) = LR + xn) := show _ = _ by rw [HLB.out, Int.add_comm]
            clear sx hcy hcz
            go_wp2_with fail
            exact ⟨⟨i + 1, b5, putL R (xk, xa, xn), by omega, rfl, HRZ.out, by rw [putL_length]; omega, by rw [HSUM.out]; exact HSX.out, HCY.out, by omega, by omega, by omega⟩, by simp [intOf]; omega⟩
      · have hmb : mayB (xk, xa, xn) = false := by simp [mayB, hm]
        rw [hmb] at HMY
        clear hmb hm
        go_wp2_with fail
        refine HMY.out.mono ?_
        rintro e w3 ⟨rfl, hc3⟩
        have HR3 := Pal.hid (HRr.out.keep hc3 (by simp) (by simp))
        have S83 : Boxed w3 b8 2 (z64 (lenS R)) := hc3.heap S8r.out (by simp)
        have S83 := Pal.hid S83
        have HC3 := Pal.hid (HCH.out.trans hc3 (by simp))
        clear hc3
        go_wp2_with fail
        exact ⟨⟨i + 1, c1, R, by omega, rfl, HR3.out, by omega, S83.out, HC3.out, q1, q2, q3⟩, by simp [intOf]; omega⟩
      -- }FAST
    · obtain rfl : i = l.length := by omega
      have hlti : ¬ (l.length : Int) < l.length := by omega
      have x7 := S7r.out.cell
      have l7 : b7 < wr.heap.size := by omega
      have HALL := Pal.hid (fun (wx : World) (hc : Chg [] wr wx) => all_rg (HRr.out.keep hc (by simp) (by simp)))
      have HEND := Pal.hid (fun (wx : World) (hc : Chg [] wr wx) => end_rg (HRr.out.keep hc (by simp) (by simp)))
      have HGAP := Pal.hid (fun (wx : World) (hc : Chg [] wr wx) => gaps_rg (HRr.out.keep hc (by simp) (by simp)) (endL R))
      have HS := Pal.hid (fun (wx : World) (hc : Chg [] wr wx) => hc.cell x7 (by simp))
      go_upto_region 17 with fail
      go_cut [15, 16] from 110 (fun s15 s16 wx => Freed wr wx R (endL R) s15 s16)
      case first =>
        go_region_held3 (fun wx => wx.cell? ⟨b7, 0, none⟩ = some (.pointer (some ⟨p, 0, none⟩))) (first | exact HS.out _ (Chg.refl _ _).drew | exact HS.out _ hcA | exact HS.out _ hcE | exact HS.out _ hcG)
          (first | (go_at_call 16; refine Calls.mono (HALL.out _ ?_) ?_; (first | exact hcG | exact hcE | exact (Chg.refl _ _).drew); rintro e wA ⟨B, b2, rfl, hsA, hcA', hBA, hbA⟩; have hcA : Chg [] wr wA := Chg.trans (by first | exact hcG | exact hcE | exact (Chg.refl _ _).drew) hcA' (by simp); have hBA : wr.heap.size ≤ B := Nat.le_trans (by first | exact hcG.size | exact hcE.size | exact Nat.le_refl _) hBA; have hbA : wr.heap.size ≤ b2 := Nat.le_trans (by first | exact hcG.size | exact hcE.size | exact Nat.le_refl _) hbA) | (go_at_call 18; refine Calls.mono (HEND.out _ ?_) ?_; (first | exact hcA | exact (Chg.refl _ _).drew); rintro e wE ⟨rfl, hcE'⟩; have hcE : Chg [] wr wE := Chg.trans (by first | exact hcA | exact (Chg.refl _ _).drew) hcE' (by simp)) | (go_at_call 17; refine Calls.mono (HGAP.out _ ?_) ?_; (first | exact hcA | exact hcE); rintro e wG ⟨U, N, A, B3, b3, rfl, hsG, hU, hN, hA, hcG', hB3, hb3, hU2, hN2, hA2⟩; have hcG : Chg [] wr wG := Chg.trans (by first | exact hcA | exact hcE) hcG' (by simp); have hle := hcG.size; have hz : wr.heap.size ≤ B3 ∧ wr.heap.size ≤ b3 ∧ wr.heap.size ≤ U ∧ wr.heap.size ≤ N ∧ wr.heap.size ≤ A := (by first | (have := hcA.size; omega) | (have := hcE.size; omega))))
        have hsA := hsA.keep (hcE'.trans hcG' (by simp)) (by simp) (by simp)
        go_wp2_with fail
        go_meet
        exact ⟨B, b2, U, N, A, B3, b3, rfl, rfl, hsA, hsG, hU, hN, hA, hcG, hBA, hbA, hz⟩
      case rest =>
        obtain ⟨B, b2, U, N, A, B3, b3, rfl, rfl, hsA, hsG, hU, hN, hA, hcG, g1, g2, g3, g4, g5, g6, g7⟩ := hcut
        have hf1 := fseq_eql
        have hf2 := fseq2_eql
        have s6 : Boxed wr b6 4 (.bool false) := HCH.out.heap S6.out (by simp; omega)
        have s6 : Boxed wc b6 4 (.bool false) := hcG.heap s6 (by simp)
        have s7 : Boxed wc b7 26 (.pointer (some ⟨p, 0, none⟩)) := hcG.heap S7r.out (by simp)
        have s8 : Boxed wc b8 2 (z64 (lenS R)) := hcG.heap S8r.out (by simp)
        have hRc := HRr.out.keep hcG (by simp) (by simp)
        have hcc : Chg [] w wc := (HC2.out.trans HCH.out (by simp; omega)).trans hcG (by simp)
        have hsc := hcG.size
        have hend : endL R = endR R := rfl
        have hbnd := end_bounds HOK.out
        obtain ⟨u, hu⟩ : ∃ u, u = endL R := ⟨_, rfl⟩
        have hu2 : u = endR R := hu
        rw [← hu] at hU
        rw [← hu2] at hbnd
        have HU2 := Pal.hid hu2
        have HU := Pal.hid hu
        have HRc := Pal.hid hRc
        have HCc := Pal.hid hcc
        have HSA := Pal.hid hsA
        have HSG := Pal.hid hsG
        have HUB := Pal.hid hU
        have HNB := Pal.hid hN
        have HAB := Pal.hid hA
        have S6c := Pal.hid s6
        have S7c := Pal.hid s7
        have S8c := Pal.hid s8
        clear hRc hcc hsA hsG hU hN hA s6 s7 s8 hend hu hu2 hcG HALL HEND HGAP HS x7 S7r S8r HRr HCH HRD2
        have hbc := HSA.out.blk
        have hBl := hbc.1
        have hb2l := hbc.2
        clear hbc
        go_wp2_with fail
        have s17 := Boxed.new wc 2 (z64 0)
        have cz : Chg [] wc (wc.alloc (.cells #[z64 0] 2)) := (Chg.refl _ _).alloc _
        have zz : (wc.alloc (.cells #[z64 0] 2)).heap.size = wc.heap.size + 1 := World.size_alloc _ _
        obtain ⟨wz, hwz⟩ : ∃ x, x = wc.alloc (.cells #[z64 0] 2) := ⟨_, rfl⟩
        rw [← hwz] at s17 cz zz ⊢
        obtain ⟨b17, hb17⟩ : ∃ x, x = wc.heap.size := ⟨_, rfl⟩
        rw [← hb17] at s17 ⊢
        have r1 : B < b17 ∧ b2 < b17 ∧ b17 < wz.heap.size ∧ b8 < b17 ∧ p < b17 ∧ c1 < b17 ∧ wc.heap.size ≤ b17 := by omega
        obtain ⟨r1, r2, r3, r4, r5, r6, r7⟩ := r1
        have HSA := Pal.hid (HSA.out.keep cz (by simp) (by simp))
        have HRz := Pal.hid (HRc.out.keep cz (by simp) (by simp))
        have S6z : Boxed wz b6 4 (.bool false) := cz.heap S6c.out (by simp)
        have S7z : Boxed wz b7 26 (.pointer (some ⟨p, 0, none⟩)) := cz.heap S7c.out (by simp)
        have S8z : Boxed wz b8 2 (z64 (lenS R)) := cz.heap S8c.out (by simp)
        have S6z := Pal.hid S6z
        have S7z := Pal.hid S7z
        have S8z := Pal.hid S8z
        have HCz := Pal.hid (HCc.out.trans cz (by simp))
        have hwzc := cz.size
        have HCZ := Pal.hid cz
        clear hwz cz zz hb17
        refine (wpIn_wide (n := 6)).1 ?_
        refine Pal.loop_told (gf := 56) (lb := #[.pointer (some ⟨B, 0, none⟩)]) rfl (enters_of Try.func56 (by kernel_rfl) rfl)
          (values_told B b2 [b17] R wz HSA.out (by simp; omega) (by simp; omega)) (Below.refl _ _) (fun h k => h.trans k) (fun W l o o' _ h ho => CellsKept.putObj W l o o' h ho) (fun _ => rfl)
          (fun k X => Boxed X b17 2 (z64 (endR (R.take k))) ∧ Chg [b17] wz X)
          (fun _ _ _ => False)
          (fun k X Y row hs hg hr => ⟨free_heap r3 hs.1 hg hr, hs.2.grown hg (fun k hk => .inr (hr k hk))⟩)
          (fun c k X Y row hs hg hr => hs.elim)
          ⟨s17, Chg.refl _ _⟩
          (fun T k a' X => ∃ Bx, b17 < Bx ∧ X.heap[Bx]? = some (.cells #[z64 (regAt R k).1, z64 (regAt R k).2.1, z64 (regAt R k).2.2] 31 (0, 0)) ∧ a' = { tmps := (T.setIfInBounds 123 (regV (regAt R k))).setIfInBounds 18 (.pointer (some ⟨Bx, 0, none⟩)), defers := [] })
          (fun k a' _ X Y row hs hg hr => by obtain ⟨Bx, h1, h3, h4⟩ := hs; exact ⟨Bx, h1, cells_kept_own h3 rfl hg (fun r e => (hr r e).2), h4⟩)
          ?assign ?body ?done ?stop
        case assign =>
          rintro l2 k X K ⟨s17, hch⟩ hk hK
          gi_wp2
          exact hK _ _ ((KeepsOthers.alloc _ _).from _) (CellsKept.alloc _ _ _) ⟨s17.alloc _, hch.alloc _⟩ ⟨X.heap.size, s17.lt, heap_new _ _, rfl⟩
        case body =>
          -- FAST{
          rintro l2 k a' X hl2 ⟨s17, hch⟩ ⟨Bx, hB1, bX, rfl⟩ hk hsX
          obtain ⟨h1, h2, h3, h4⟩ := walk_at HOK.out hk
          rw [← regAt_get hk] at h1 h2 h3 h4
          have hre := regAt_get hk
          generalize regAt R k = x at *
          obtain ⟨xk, xa, xn⟩ := x
          unfold May at h4
          simp only [st, en, ln, kd] at h1 h2 h3 h4
          generalize endR (R.take k) = e at h1 s17
          have HE := Pal.hid h2
          have hnlt : ¬ xa < e := by omega
          have hnd : decide (xa < e) = false := by simpa using hnlt
          have hw1 : IntKind.i64.wrap (xa + xn) = xa + xn := IntWalk.i64_in _ (by simp only [maxP] at *; omega)
          have hw2 : IntKind.i64.wrap (xa + xn - 1) = xa + xn - 1 := IntWalk.i64_in _ (by simp only [maxP] at *; omega)
          have d0 : X.cell? ⟨Bx, 0, none⟩ = some (z64 xk) := (cell_at (i := 0) bX).trans rfl
          have d1 : X.cell? ⟨Bx, 1, none⟩ = some (z64 xa) := (cell_at (i := 1) bX).trans rfl
          have d2 : X.cell? ⟨Bx, 2, none⟩ = some (z64 xn) := (cell_at (i := 2) bX).trans rfl
          have lBx := lt_heap bX
          have s7 : Boxed X b7 26 (.pointer (some ⟨p, 0, none⟩)) := hch.heap S7z.out (by simp; omega)
          have x7 := s7.cell
          have l7 := s7.lt
          have x17 := s17.cell
          have f17 := s17.frozen
          have l17 := s17.lt
          have hcx : Chg [b17] X (X.setCell ⟨b17, 0, none⟩ (z64 (xa + xn))) := (Chg.refl [b17] X).setCell (.inl (by simp)) _
          have hof := of_rg ((HRz.out.keep hch (by simp; omega) (by simp; omega)).keep hcx (by simp; omega) (by simp; omega)) (xa + xn - 1)
          rw [h3] at hof
          have HOF := Pal.hid hof
          have t17 := s17.set (z64 (xa + xn))
          have e7 : b7 ≠ b17 := by omega
          have eBx : Bx ≠ b17 := by omega
          have HHD := Pal.hid (hcx.heap bX (by simp; omega))
          have HCX := Pal.hid hcx
          have HT17 := Pal.hid t17
          have HCH9 := Pal.hid hch
          clear hof h1 h2 h3 hre hcx t17 bX hch
          gi_wp2
          refine ⟨trivial, (CallsIn.inRound l2 (callsIn_wide.2 HOF.out)).mono ?_⟩
          rintro e' W3 ⟨rfl, hc3⟩
          have HB3 := hc3.heap HHD.out (by simp)
          have d0 : W3.cell? ⟨Bx, 0, none⟩ = some (z64 xk) := (cell_at (i := 0) HB3).trans rfl
          have d1 : W3.cell? ⟨Bx, 1, none⟩ = some (z64 xa) := (cell_at (i := 1) HB3).trans rfl
          have d2 : W3.cell? ⟨Bx, 2, none⟩ = some (z64 xn) := (cell_at (i := 2) HB3).trans rfl
          have lBx := lt_heap HB3
          have hfin := (HCX.out.trans hc3 (by simp)).alloc (.cells #[z64 xk, z64 xa, z64 xn] 31)
          have t17 : Boxed (W3.alloc (.cells #[z64 xk, z64 xa, z64 xn] 31)) b17 2 (z64 (xa + xn)) := heap_old (hc3.heap HT17.out (by simp))
          have HFIN := Pal.hid hfin
          have HT17 := Pal.hid t17
          clear hfin t17 hc3 HB3 HHD x7 x17 f17 s7 s17
          unfold regO
          gi_wp2
          exact ⟨chg_keeps HFIN.out (by simp; omega), chg_cells HFIN.out, by rw [HE.out]; exact HT17.out, HCH9.out.trans HFIN.out (by simp)⟩
          -- }FAST
        case done =>
          rintro D1 X hD1 ⟨s17, hch⟩ hK1
          rw [List.take_length, ← HU2.out] at s17
          have hcx : Chg [] w X := HCz.out.trans hch (by simp; have := HCz.out.size; have := HCc.out.size; omega)
          have S17 := Pal.hid s17
          have HRX := Pal.hid (HRz.out.keep hch (by simp; omega) (by simp; omega))
          have S6X : Boxed X b6 4 (.bool false) := hch.heap S6z.out (by simp; omega)
          have S7X : Boxed X b7 26 (.pointer (some ⟨p, 0, none⟩)) := hch.heap S7z.out (by simp; omega)
          have S8X : Boxed X b8 2 (z64 (lenS R)) := hch.heap S8z.out (by simp; omega)
          have k1 := lt_heap HUB.out
          have k2 := lt_heap HNB.out
          have k3 := lt_heap HAB.out
          have k4 := HSG.out.blk
          have HUX := Pal.hid (hch.heap (HCZ.out.heap HUB.out (by simp)) (by simp; omega))
          have HNX := Pal.hid (hch.heap (HCZ.out.heap HNB.out (by simp)) (by simp; omega))
          have HAX := Pal.hid (hch.heap (HCZ.out.heap HAB.out (by simp)) (by simp; omega))
          have HSX := Pal.hid ((HSG.out.keep HCZ.out (by simp) (by simp)).keep hch (by simp; omega) (by simp; omega))
          have hsX := hch.size
          have HCX := Pal.hid hcx
          have S6X := Pal.hid S6X
          have S7X := Pal.hid S7X
          have S8X := Pal.hid S8X
          have HK1 := Pal.hid hK1
          have l8 : b8 < X.heap.size := by omega
          have hD1l := lt_heap hK1
          clear hcx hch s17 hK1 HUB HNB HAB HSG k1 k2 k3 k4 HCZ HCz HCc S6z S7z S8z HRz HSA
          go_wp2_with fail
          have hmin : min u maxP = u := by omega
          obtain ⟨hG1, hG2⟩ := gaps_end HOK.out
          obtain ⟨G, hG⟩ : ∃ G, G = gapsFrom (min u maxP) 0 R := ⟨_, rfl⟩
          have hG0 : gapsFrom (endR R) 0 R = G := by rw [hG, hmin, HU2.out]
          rw [hG0] at hG1 hG2
          rw [← HU2.out] at hG2
          have hgt := gaps_told U N A B3 b3 [b8] R u X HOK.out (by simp; omega) (by simp only [maxP] at *; omega) HSX.out HUX.out HNX.out HAX.out (by simp; omega) (by simp; omega)
          rw [← hG] at hgt
          have HG1 := Pal.hid hG1
          have HG2 := Pal.hid hG2
          clear hG hG0 hmin hG1 hG2
          refine (wpIn_wide (n := 6)).1 ?_
          refine Pal.loop_told (gf := 42) (lb := #[.pointer (some ⟨U, 0, none⟩), .pointer (some ⟨N, 0, none⟩), .pointer (some ⟨A, 0, none⟩)]) rfl (enters_of Try.func42 (by kernel_rfl) rfl)
            hgt (Below.refl _ _) (fun h k => h.trans k) (fun W l o o' _ h ho => CellsKept.putObj W l o o' h ho) (fun _ => rfl)
            (fun k Y => Boxed Y b8 2 (z64 (lenS R + lenG (G.take k))) ∧ Chg [b8] X Y)
            (fun _ _ _ => False)
            (fun k Y Z row hs hg hr => ⟨free_heap l8 hs.1 hg hr, hs.2.grown hg (fun k hk => .inr (hr k hk))⟩)
            (fun c k Y Z row hs hg hr => hs.elim)
            ⟨by rw [List.take_zero, show lenG [] = 0 from rfl, Int.add_zero]; exact S8X.out, Chg.refl _ _⟩
            (fun T k a' Y => a' = { tmps := (((T.setIfInBounds 152 (z64 (G.getD k (0, 0)).1)).setIfInBounds 153 (z64 (G.getD k (0, 0)).2)).setIfInBounds 21 (z64 (G.getD k (0, 0)).1)).setIfInBounds 22 (z64 (G.getD k (0, 0)).2), defers := [] })
            (fun k a' _ Y Z row hs hg hr => hs)
            ?assign2 ?body2 ?done2 ?stop2
          case assign2 =>
            rintro l2 k Y K hi hk hK
            dsimp only [encP] at hK ⊢
            generalize G.getD k (0, 0) = g at hK ⊢
            clear hk
            gi_wp2
            exact hK _ _ ((KeepsOthers.refl _).from _) (CellsKept.refl _ _) hi rfl
          case body2 =>
            -- FAST{
            rintro l2 k a' Y hl2 ⟨s8, hch⟩ rfl hk hsY
            have hge : G.getD k (0, 0) = G[k] := by simp [hk]
            obtain ⟨h1, h2, h3, h4, h5, h6⟩ := HG1.out _ (List.getElem_mem hk)
            have hsu := lenG_succ hk
            have hpre := lenG_take (fun g hg => (HG1.out g hg).2.1) (k + 1)
            have hpre0 := lenG_take (fun g hg => (HG1.out g hg).2.1) k
            have htot := HG2.out
            have hlR := (lenS_le (a := 0) HOK.out (fun x hx => by have := HOK.out.1 x hx; unfold May at this; exact this.2.2.1) (by decide))
            rw [← hge] at h1 h2 h3 h4 h5 h6 hsu
            generalize G.getD k (0, 0) = g at *
            obtain ⟨ga, gn⟩ := g
            dsimp only at h1 h2 h3 h4 h5 h6 hsu ⊢
            rw [hsu] at hpre
            have HSU := Pal.hid hsu
            generalize lenG (G.take k) = LG at *
            generalize lenS R = LS at *
            generalize lenG G = LT at *
            have hw1 : IntKind.i64.wrap (ga - 1) = ga - 1 := IntWalk.i64_in _ (by simp only [maxP] at *; omega)
            have hw2 : IntKind.i64.wrap (ga + gn) = ga + gn := IntWalk.i64_in _ (by simp only [maxP] at *; omega)
            have hw3 : IntKind.i64.wrap (LS + LG + gn) = LS + LG + gn := IntWalk.i64_in _ (by simp only [maxP] at *; omega)
            have hroom : roomB ga gn = true := by unfold roomB; simp only [decide_eq_true_eq]; omega
            have hRY := HRX.out.keep hch (by simp; omega) (by simp; omega)
            have s7 : Boxed Y b7 26 (.pointer (some ⟨p, 0, none⟩)) := hch.heap S7X.out (by simp; omega)
            have x7 := s7.cell
            have l7 := s7.lt
            have HASK := Pal.hid (ask_any0 hRY hroom (by omega))
            rw [h4] at HASK
            have HO1 := Pal.hid (fun (wx : World) (hc : Chg [] Y wx) => of_any0 (hRY.keep hc (by simp) (by simp)) (ga - 1))
            have HO2 := Pal.hid (fun (wx : World) (hc : Chg [] Y wx) => of_any0 (hRY.keep hc (by simp) (by simp)) (ga + gn))
            rw [h6] at HO2
            have S7Y := Pal.hid s7
            have S8Y := Pal.hid s8
            have HCY := Pal.hid hch
            have HIS := Pal.hid h5
            have g1d : decide (gn < 1) = false := by simpa using (show ¬ gn < 1 by omega)
            clear hRY s7 s8 hch h4 h5 h6 hge hsu hroom
            gi_wp2
            refine ⟨trivial, (CallsIn.inRound l2 (callsIn_wide.2 HASK.out)).mono ?_⟩
            rintro e' Y1 ⟨x1, x2, x3, rfl, hc1⟩
            have hc1 := hc1.alloc (.cells #[z64 x1, z64 x2, z64 x3] 31)
            have hz1 : Y1.heap.size < (Y1.alloc (.cells #[z64 x1, z64 x2, z64 x3] 31)).heap.size := by simp
            have x7 : (Y1.alloc (.cells #[z64 x1, z64 x2, z64 x3] 31)).cell? ⟨b7, 0, none⟩ = some (.pointer (some ⟨p, 0, none⟩)) := hc1.cell S7Y.out.cell (by simp)
            have l7 : b7 < (Y1.alloc (.cells #[z64 x1, z64 x2, z64 x3] 31)).heap.size := by have := hc1.size; omega
            gi_wp2
            refine ⟨trivial, (CallsIn.inRound l2 (callsIn_wide.2 (HO1.out _ hc1))).mono ?_⟩
            rintro e' Y2 ⟨v1, v2, v3, rfl, hc2⟩
            have hc2 := (hc1.trans hc2 (by simp)).alloc (.cells #[z64 v1, z64 v2, z64 v3] 31)
            have x7 : (Y2.alloc (.cells #[z64 v1, z64 v2, z64 v3] 31)).cell? ⟨b7, 0, none⟩ = some (.pointer (some ⟨p, 0, none⟩)) := hc2.cell S7Y.out.cell (by simp)
            have l7 : b7 < (Y2.alloc (.cells #[z64 v1, z64 v2, z64 v3] 31)).heap.size := by have := hc2.size; omega
            gi_wp2
            refine ⟨trivial, (CallsIn.inRound l2 (callsIn_wide.2 (HO2.out _ hc2))).mono ?_⟩
            rintro e' Y3 ⟨y1, y2, y3, rfl, hc3⟩
            have hc3 := (hc2.trans hc3 (by simp)).alloc (.cells #[z64 y1, z64 y2, z64 y3] 31)
            have s8 : Boxed (Y3.alloc (.cells #[z64 y1, z64 y2, z64 y3] 31)) b8 2 (z64 (LS + LG)) := hc3.heap S8Y.out (by simp)
            have x8 := s8.cell
            have f8 := s8.frozen
            have l8' := s8.lt
            have t8 := s8.set (z64 (LS + LG + gn))
            have hfin := (hc3.mono (T := [b8]) (by simp)).setCell (p := ⟨b8, 0, none⟩) (.inl (by simp)) (z64 (LS + LG + gn))
            have HFIN := Pal.hid hfin
            have HT8 := Pal.hid t8
            clear hfin t8 hc1 hc2 hc3 s8 x7 l7 hz1
            have finish : KeepsFrom X.heap.size Y ((Y3.alloc (.cells #[z64 y1, z64 y2, z64 y3] 31)).setCell ⟨b8, 0, none⟩ (z64 (LS + LG + gn))) ∧ CellsKept [b8] Y ((Y3.alloc (.cells #[z64 y1, z64 y2, z64 y3] 31)).setCell ⟨b8, 0, none⟩ (z64 (LS + LG + gn))) ∧ Boxed ((Y3.alloc (.cells #[z64 y1, z64 y2, z64 y3] 31)).setCell ⟨b8, 0, none⟩ (z64 (LS + LG + gn))) b8 2 (z64 (LS + lenG (G.take (k + 1)))) ∧ Chg [b8] X ((Y3.alloc (.cells #[z64 y1, z64 y2, z64 y3] 31)).setCell ⟨b8, 0, none⟩ (z64 (LS + LG + gn))) :=
              ⟨chg_keeps HFIN.out (by simp; omega), chg_cells HFIN.out, by rw [HSU.out, ← Int.add_assoc]; exact HT8.out, HCY.out.trans HFIN.out (by simp)⟩
            have HFF := Pal.hid finish
            clear finish
            by_cases hga : 0 < ga
            · have hgd2 : decide (0 < ga) = true := by simpa using hga
              have hio : (ofL R (ga - 1)).isSome = true := HIS.out hga
              rw [hio]
              clear hio
              gi_wp2
              refine ⟨trivial, (CallsIn.inRound l2 (callsIn_wide.2 (num_rg _ _))).mono ?_⟩
              rintro e' W' ⟨rfl, rfl⟩
              gi_wp2
              exact HFF.out
            · have hgd2 : decide (0 < ga) = false := by simpa using hga
              generalize (ofL R (ga - 1)).isSome = ob
              gi_wp2
              refine ⟨trivial, (CallsIn.inRound l2 (callsIn_wide.2 (num_rg _ _))).mono ?_⟩
              rintro e' W' ⟨rfl, rfl⟩
              gi_wp2
              exact HFF.out
            -- }FAST
          case done2 =>
            rintro D2 Y hD2 ⟨s8, hch⟩ hK2
            rw [List.take_length, show lenS R + lenG G = u by have := HG2.out; omega] at s8
            have s6 : Boxed Y b6 4 (.bool false) := hch.heap S6X.out (by simp; omega)
            have s7 : Boxed Y b7 26 (.pointer (some ⟨p, 0, none⟩)) := hch.heap S7X.out (by simp; omega)
            have s17 : Boxed Y b17 2 (z64 u) := hch.heap S17.out (by simp; omega)
            have hRY := HRX.out.keep hch (by simp; omega) (by simp; omega)
            have hcy : Chg [] w Y := HCX.out.trans hch (by simp; have := HCX.out.size; omega)
            have HK1 := Pal.hid (hch.heap HK1.out (by simp; omega))
            have HK2 := Pal.hid hK2
            have hD2l := lt_heap hK2
            have hD12 : D1 ≠ D2 := by omega
            have hsY := hch.size
            have HRY := Pal.hid hRY
            have HCY := Pal.hid hcy
            have x7 := s7.cell
            have x8 := s8.cell
            have x17 := s17.cell
            have x6 := s6.cell
            have f6 := s6.frozen
            have l6 := s6.lt
            have l7 := s7.lt
            have l8 := s8.lt
            have l17 := s17.lt
            have HEND := Pal.hid (fun (wx : World) (hc : Chg [] Y wx) => end_rg (hRY.keep hc (by simp) (by simp)))
            rw [← HU.out] at HEND
            have HS := Pal.hid (fun (wx : World) (hc : Chg [] Y wx) => And.intro (hc.cell x7 (by simp)) (And.intro (hc.cell x8 (by simp)) (hc.cell x17 (by simp))))
            have S6Y := Pal.hid s6
            clear hRY hcy hch s6 s7 s8 s17 hK2 HG1 HG2
            have hun : (u != u) = false := by simp
            have hue : (u == u) = true := by simp
            -- TAIL
            have HS6 := Pal.hid (fun (wx : World) (hc : Chg [b6] Y wx) => And.intro (hc.cell x7 (by simp; omega)) (And.intro (hc.cell x8 (by simp; omega)) (hc.cell x17 (by simp; omega))))
            by_cases hn1 : n < 1
            · have hn1d : decide (n < 1) = true := by simpa using hn1
              go_wp2_with fail
              refine wp_region_noPanic ?_
              refine wp_region_held_drew (S := fun wx => wx.cell? ⟨b7, 0, none⟩ = some (.pointer (some ⟨p, 0, none⟩)) ∧ wx.cell? ⟨b8, 0, none⟩ = some (z64 u) ∧ wx.cell? ⟨b17, 0, none⟩ = some (z64 u)) (by kernel_rfl) (HS.out _ (Chg.refl _ _).drew) (fun hHeld => ?_)
              have cd : Chg [] Y Y.drew := (Chg.refl _ _).drew
              generalize Y.drew = W0 at cd hHeld ⊢
              refine Pal.held_take (i := 0) (v := ?_) rfl (by kernel_rfl) (by kernel_rfl) (by kernel_rfl) (fun _ _ _ h => h) (Or.inl ⟨by rfl, ?_⟩) hHeld ?_
              rotate_left
              · (intro w hSw; (try dsimp only at hSw); go_simp)
                first | done | with_reducible rfl
              (try simp only [Act.put, List.setIfInBounds_toArray, List.set_cons_zero, List.set_cons_succ])
              refine Pal.held_take (i := 1) (v := ?_) rfl (by kernel_rfl) (by kernel_rfl) (by kernel_rfl) (fun _ _ _ h => h) (Or.inl ⟨by rfl, ?_⟩) hHeld ?_
              rotate_left
              · (intro w hSw; (try dsimp only at hSw); go_simp)
                first | done | with_reducible rfl
              (try simp only [Act.put, List.setIfInBounds_toArray, List.set_cons_zero, List.set_cons_succ])
              refine Pal.held_one (i := 2) rfl (by kernel_rfl) (by rfl) (fun K hK => ?_)
              go_simp
              go_at_call 18
              refine Calls.mono (HEND.out _ cd) ?_
              rintro e w1 ⟨rfl, hcE1⟩
              have hcE1 : Chg [] Y w1 := cd.trans hcE1 (by simp)
              have hHeld := HS.out _ hcE1
              refine hK.out _ _ hHeld ?_
              clear hK K
              refine Pal.held_take (i := 3) (v := ?_) rfl (by kernel_rfl) (by kernel_rfl) (by kernel_rfl) (fun _ _ _ h => h) (Or.inl ⟨by rfl, ?_⟩) hHeld ?_
              rotate_left
              · (intro w hSw; (try dsimp only at hSw); go_simp)
                first | done | with_reducible rfl
              (try simp only [Act.put, List.setIfInBounds_toArray, List.set_cons_zero, List.set_cons_succ])
              refine Pal.held_take (i := 4) (v := ?_) rfl (by kernel_rfl) (by kernel_rfl) (by kernel_rfl) (fun _ _ _ h => h) (Or.inl ⟨by rfl, ?_⟩) hHeld ?_
              rotate_left
              · (intro w hSw; (try dsimp only at hSw); go_simp)
                first | done | with_reducible rfl
              (try simp only [Act.put, List.setIfInBounds_toArray, List.set_cons_zero, List.set_cons_succ])
              refine Pal.held_take (i := 5) (v := ?_) rfl (by kernel_rfl) (by kernel_rfl) (by kernel_rfl) (fun _ _ _ h => h) (Or.inl ⟨by rfl, ?_⟩) hHeld ?_
              rotate_left
              · (intro w hSw; (try dsimp only at hSw); go_simp)
                first | done | with_reducible rfl
              (try simp only [Act.put, List.setIfInBounds_toArray, List.set_cons_zero, List.set_cons_succ])
              refine Pal.held_take (i := 6) (v := ?_) rfl (by kernel_rfl) (by kernel_rfl) (by kernel_rfl) (fun _ _ _ h => h) (Or.inl ⟨by rfl, ?_⟩) hHeld ?_
              rotate_left
              · (intro w hSw; (try dsimp only at hSw); go_simp)
                first | done | with_reducible rfl
              (try simp only [Act.put, List.setIfInBounds_toArray, List.set_cons_zero, List.set_cons_succ])
              refine Pal.held_one (i := 7) rfl (by kernel_rfl) (by rfl) (fun K hK => ?_)
              go_simp
              go_at_call 18
              refine Calls.mono (HEND.out _ hcE1) ?_
              rintro e w2 ⟨rfl, hcE2⟩
              have hcE2 : Chg [] Y w2 := hcE1.trans hcE2 (by simp)
              have hHeld := HS.out _ hcE2
              refine hK.out _ _ hHeld ?_
              clear hK K
              refine Pal.held_rest 8 rfl (by kernel_rfl) (by kernel_rfl) (fun n => hHeld) ?_
              simp only [List.drop_succ_cons, List.drop_zero]
              repeat (quiet_step (fail))
              refine wpQuiet_nil ?_
              intro w3 hw3
              obtain ⟨nq, rfl⟩ := hw3
              refine NoPanic.normal ?_
              have hcE2 := hcE2.drewN nq
              generalize w2.drewN nq = w2 at hcE2 ⊢
              go_wp2_with fail
              go_region_held3 (fun wx => wx.cell? ⟨b7, 0, none⟩ = some (.pointer (some ⟨p, 0, none⟩)) ∧ wx.cell? ⟨b8, 0, none⟩ = some (z64 u) ∧ wx.cell? ⟨b17, 0, none⟩ = some (z64 u)) (first | exact HS.out _ hcE2.drew | exact HS.out _ hcE3 | exact HS.out _ hcE4 | exact HS.out _ hcW | exact HS6.out _ ((hcW.mono (T := [b6]) (by simp)).setCell (.inl (by simp)) _)) (first | (go_at_call 18; refine Calls.mono (HEND.out _ ?_) ?_; exact hcE2.drew; rintro e w3 ⟨rfl, hcE3⟩; have hcE3 : Chg [] Y w3 := Chg.trans (hcE2.drew) hcE3 (by simp)) | (go_at_call 18; refine Calls.mono (HEND.out _ ?_) ?_; exact hcE3; rintro e w4 ⟨rfl, hcE4⟩; have hcE4 : Chg [] Y w4 := Chg.trans (hcE3) hcE4 (by simp)) | (go_at_call 8; refine Calls.mono (HW.out _) ?_; rintro e w5 ⟨rfl, hcW⟩; have hcW : Chg [] Y w5 := Chg.trans hcE4 hcW (by simp); have t6 : Boxed w5 b6 4 (.bool false) := hcW.heap S6Y.out (by simp); have x6 := t6.cell; have f6 := t6.frozen; have l6 := t6.lt; have t6' := t6.set (.bool true)))
              have hcf : Chg [b6] Y (w5.setCell ⟨b6, 0, none⟩ (.bool true)) := (hcW.mono (T := [b6]) (by simp)).setCell (.inl (by simp)) _
              have hk2 := hcf.heap HK2.out (by simp; omega)
              have hk1 := hcf.heap HK1.out (by simp; omega)
              have HFF := Pal.hid (HCY.out.trans hcf (by simp; omega))
              have HT6 := Pal.hid t6'
              clear hcf t6' t6
              go_wp2_with fail
              rw [← HQ.out]
              have hb6 : b6 ≠ D1 ∧ b6 ≠ D2 := by omega
              have t6a := putObj_far (D := D2) (o' := .deferred none) HT6.out hb6.2
              have t6b := putObj_far (D := D1) (o' := .deferred none) t6a hb6.1
              have x6b := Boxed.cell t6b
              refine Pal.leave_mark hk2 (Pal.leave_mark (putObj_far hk1 hD12) (Pal.leave_end (.bool true) ?_ ⟨rfl, (HFF.out.grown (grownBy_putObj' _ D2 (.deferred none)) (fun k hk => by cases hk; right; omega)).grown (grownBy_putObj' _ D1 (.deferred none)) (fun k hk => by cases hk; right; omega)⟩))
              simp [results, Try.results4, go_sem, x6b]
            · have hn1d : decide (n < 1) = false := by simpa using hn1
              by_cases hs1 : s < 1
              · have hs1d : decide (s < 1) = true := by simpa using hs1
                go_wp2_with fail
                go_region_held3 (fun wx => wx.cell? ⟨b7, 0, none⟩ = some (.pointer (some ⟨p, 0, none⟩)) ∧ wx.cell? ⟨b8, 0, none⟩ = some (z64 u) ∧ wx.cell? ⟨b17, 0, none⟩ = some (z64 u)) (first | exact HS.out _ (Chg.refl _ _).drew | exact HS.out _ hcE1 | exact HS.out _ hcE2) (first | (go_at_call 18; refine Calls.mono (HEND.out _ ?_) ?_; exact (Chg.refl _ _).drew; rintro e w1 ⟨rfl, hcE1⟩; have hcE1 : Chg [] Y w1 := Chg.trans ((Chg.refl _ _).drew) hcE1 (by simp)) | (go_at_call 18; refine Calls.mono (HEND.out _ ?_) ?_; exact hcE1; rintro e w2 ⟨rfl, hcE2⟩; have hcE2 : Chg [] Y w2 := Chg.trans (hcE1) hcE2 (by simp)))
                go_wp2_with fail
                go_region_held3 (fun wx => wx.cell? ⟨b7, 0, none⟩ = some (.pointer (some ⟨p, 0, none⟩)) ∧ wx.cell? ⟨b8, 0, none⟩ = some (z64 u) ∧ wx.cell? ⟨b17, 0, none⟩ = some (z64 u)) (first | exact HS.out _ hcE2.drew | exact HS.out _ hcE3 | exact HS.out _ hcE4 | exact HS.out _ hcW | exact HS6.out _ ((hcW.mono (T := [b6]) (by simp)).setCell (.inl (by simp)) _)) (first | (go_at_call 18; refine Calls.mono (HEND.out _ ?_) ?_; exact hcE2.drew; rintro e w3 ⟨rfl, hcE3⟩; have hcE3 : Chg [] Y w3 := Chg.trans (hcE2.drew) hcE3 (by simp)) | (go_at_call 18; refine Calls.mono (HEND.out _ ?_) ?_; exact hcE3; rintro e w4 ⟨rfl, hcE4⟩; have hcE4 : Chg [] Y w4 := Chg.trans (hcE3) hcE4 (by simp)) | (go_at_call 8; refine Calls.mono (HW.out _) ?_; rintro e w5 ⟨rfl, hcW⟩; have hcW : Chg [] Y w5 := Chg.trans hcE4 hcW (by simp); have t6 : Boxed w5 b6 4 (.bool false) := hcW.heap S6Y.out (by simp); have x6 := t6.cell; have f6 := t6.frozen; have l6 := t6.lt; have t6' := t6.set (.bool true)))
                have hcf : Chg [b6] Y (w5.setCell ⟨b6, 0, none⟩ (.bool true)) := (hcW.mono (T := [b6]) (by simp)).setCell (.inl (by simp)) _
                have hk2 := hcf.heap HK2.out (by simp; omega)
                have hk1 := hcf.heap HK1.out (by simp; omega)
                have HFF := Pal.hid (HCY.out.trans hcf (by simp; omega))
                have HT6 := Pal.hid t6'
                clear hcf t6' t6
                go_wp2_with fail
                rw [← HQ.out]
                have hb6 : b6 ≠ D1 ∧ b6 ≠ D2 := by omega
                have t6a := putObj_far (D := D2) (o' := .deferred none) HT6.out hb6.2
                have t6b := putObj_far (D := D1) (o' := .deferred none) t6a hb6.1
                have x6b := Boxed.cell t6b
                refine Pal.leave_mark hk2 (Pal.leave_mark (putObj_far hk1 hD12) (Pal.leave_end (.bool true) ?_ ⟨rfl, (HFF.out.grown (grownBy_putObj' _ D2 (.deferred none)) (fun k hk => by cases hk; right; omega)).grown (grownBy_putObj' _ D1 (.deferred none)) (fun k hk => by cases hk; right; omega)⟩))
                simp [results, Try.results4, go_sem, x6b]
              · have hs1d : decide (s < 1) = false := by simpa using hs1
                go_wp2_with fail
                go_region_held3 (fun wx => wx.cell? ⟨b7, 0, none⟩ = some (.pointer (some ⟨p, 0, none⟩)) ∧ wx.cell? ⟨b8, 0, none⟩ = some (z64 u) ∧ wx.cell? ⟨b17, 0, none⟩ = some (z64 u)) (first | exact HS.out _ (Chg.refl _ _).drew | exact HS.out _ hcE1 | exact HS.out _ hcE2) (first | (go_at_call 18; refine Calls.mono (HEND.out _ ?_) ?_; exact (Chg.refl _ _).drew; rintro e w1 ⟨rfl, hcE1⟩; have hcE1 : Chg [] Y w1 := Chg.trans ((Chg.refl _ _).drew) hcE1 (by simp)) | (go_at_call 18; refine Calls.mono (HEND.out _ ?_) ?_; exact hcE1; rintro e w2 ⟨rfl, hcE2⟩; have hcE2 : Chg [] Y w2 := Chg.trans (hcE1) hcE2 (by simp)))
                go_wp2_with fail
                have hrm : (roomB 0 0 && (decide (1 ≤ n) && decide (1 ≤ s))) = true := by
                  have h1 : decide (1 ≤ n) = true := by simpa using hn1
                  have h2 : decide (1 ≤ s) = true := by simpa using hs1
                  rw [h1, h2]
                  rfl
                have hfi := first_rg (HRY.out.keep hcE2 (by simp) (by simp)) 0 n s hn.2 hs.2
                unfold firstR at hfi
                rw [if_pos hrm] at hfi
                cases hfl : firstL R n s (R.length + 1) 0 with
                | none =>
                  rw [hfl] at hfi
                  have HFI := Pal.hid hfi
                  clear hfi hfl hrm
                  refine HFI.out.mono ?_
                  rintro e w3 ⟨rfl, hc3⟩
                  have hcE4 : Chg [] Y w3 := hcE2.trans hc3 (by simp)
                  clear hc3
                  unfold firstV
                  go_wp2_with (go_at_call 12; refine (num_rg _ _).mono ?_; rintro e w' ⟨rfl, rfl⟩)
                  refine (HW.out _).mono ?_
                  rintro e w5 ⟨rfl, hcW⟩
                  have hcW : Chg [] Y w5 := Chg.trans hcE4 hcW (by simp)
                  have t6 : Boxed w5 b6 4 (.bool false) := hcW.heap S6Y.out (by simp)
                  have x6 := t6.cell
                  have f6 := t6.frozen
                  have l6 := t6.lt
                  have t6' := t6.set (.bool true)
                  have hcf : Chg [b6] Y (w5.setCell ⟨b6, 0, none⟩ (.bool true)) := (hcW.mono (T := [b6]) (by simp)).setCell (.inl (by simp)) _
                  have hk2 := hcf.heap HK2.out (by simp; omega)
                  have hk1 := hcf.heap HK1.out (by simp; omega)
                  have HFF := Pal.hid (HCY.out.trans hcf (by simp; omega))
                  have HT6 := Pal.hid t6'
                  clear hcf t6' t6
                  go_wp2_with fail
                  rw [← HQ.out]
                  have hb6 : b6 ≠ D1 ∧ b6 ≠ D2 := by omega
                  have t6a := putObj_far (D := D2) (o' := .deferred none) HT6.out hb6.2
                  have t6b := putObj_far (D := D1) (o' := .deferred none) t6a hb6.1
                  have x6b := Boxed.cell t6b
                  refine Pal.leave_mark hk2 (Pal.leave_mark (putObj_far hk1 hD12) (Pal.leave_end (.bool true) ?_ ⟨rfl, (HFF.out.grown (grownBy_putObj' _ D2 (.deferred none)) (fun k hk => by cases hk; right; omega)).grown (grownBy_putObj' _ D1 (.deferred none)) (fun k hk => by cases hk; right; omega)⟩))
                  simp [results, Try.results4, go_sem, x6b]
                | some r =>
                  obtain ⟨f1, f2, f3, f4, f5⟩ := firstL_is HOK.out (show 0 < s by omega) (show 0 < n by omega) (Int.le_refl 0) hfl
                  rw [hfl] at hfi
                  have HFI := Pal.hid hfi
                  have HF5 := Pal.hid f5
                  clear hfi hfl hrm f5
                  refine HFI.out.mono ?_
                  rintro e w3 ⟨rfl, hc3⟩
                  have hcE4 : Chg [] Y w3 := hcE2.trans hc3 (by simp)
                  clear hc3
                  unfold firstV
                  go_wp2_with (go_at_call 12; refine (num_rg _ _).mono ?_; rintro e w' ⟨rfl, rfl⟩)
                  have hsr : r = 0 ∨ s ≤ r := by
                    rcases Int.lt_or_le 0 r with h | h
                    · exact .inr (Int.le_of_dvd h (Int.dvd_of_emod_eq_zero f2))
                    · exact .inl (by omega)
                  have hrM : r ≤ maxP := by omega
                  have HASK := Pal.hid (fun (wx : World) (hc : Chg [] Y wx) (q : Int) (h0 : 0 ≤ q) (h1 : q ≤ r) => ask_any0 (HRY.out.keep hc (by simp) (by simp)) (a := q) (n := n) (by unfold roomB; simp only [decide_eq_true_eq]; simp only [maxP] at *; omega) (by omega))
                  have HC4 := Pal.hid hcE4
                  have hsw := hs.2
                  have X7 := Pal.hid x7
                  have L7 := Pal.hid l7
                  have hf2 := Pal.hid f2
                  have hf3 := Pal.hid f3
                  clear hcE4 hcE2 f2 f3 x7 x8 x17 l8 l17 x6 f6 l6 l7
                  go_loopw [32, 33] (fun pv iv wr => ∃ (q : Int) (j : Nat), pv = z64 q ∧ iv = z64 j ∧ 0 ≤ q ∧ (q ≤ r ∨ q < r + s) ∧ q % s = 0 ∧ j ≤ 400 ∧ Chg [] Y wr) (fun _ iv _ => 400 - (intOf iv).toNat)
                  case atStart => exact ⟨0, 0, rfl, rfl, Int.le_refl _, .inl f1, by simp, Nat.zero_le _, HC4.out⟩
                  case round =>
                    clear HC4
                    obtain ⟨q, j, rfl, rfl, hq0, hq1, hqs, hj, hch⟩ := hrel
                    have x7 := hch.cell X7.out (by simp)
                    have l7 : b7 < wr.heap.size := by have := hch.size; have := L7.out; omega
                    have HCH := Pal.hid hch
                    have HQS := Pal.hid hqs
                    clear hch hqs
                    by_cases hqr : q < r
                    · have hqd : decide (q < r) = true := by simpa using hqr
                      by_cases hj4 : j < 400
                      · have hj4i : (j : Int) < 400 := by omega
                        have hj4d : decide ((j : Int) < 400) = true := by simpa using hj4i
                        have hask := HASK.out _ HCH.out q hq0 (by omega)
                        rw [HF5.out q hq0 hqr HQS.out] at hask
                        have HA := Pal.hid hask
                        have hw1 : IntKind.i64.wrap (q + s) = q + s := IntWalk.i64_in _ (by simp only [maxP] at *; omega)
                        have hw2 : IntKind.i64.wrap ((j : Int) + 1) = ((j + 1 : Nat) : Int) := IntWalk.i64_in _ (by omega)
                        have HQ2 : Hid ((q + s) % s = 0) := show _ = _ by rw [Int.add_emod_right]; exact HQS.out
                        clear hask
                        go_wp2_with fail
                        refine HA.out.mono ?_
                        rintro e w4 ⟨x1, x2, x3, rfl, hc4⟩
                        have HC5 := Pal.hid ((HCH.out.trans hc4 (by simp)).alloc (.cells #[z64 x1, z64 x2, z64 x3] 31))
                        clear hc4
                        go_wp2_with (go_at_call 12; refine (num_rg _ _).mono ?_; rintro e w' ⟨rfl, rfl⟩)
                        exact ⟨⟨q + s, j + 1, rfl, rfl, by omega, by omega, HQ2.out, by omega, HC5.out⟩, by simp [intOf]; omega⟩
                      · have hj4i : ¬ (j : Int) < 400 := by omega
                        have hj4d : decide ((j : Int) < 400) = false := by simpa using hj4i
                        have hask := HASK.out _ HCH.out r f1 (Int.le_refl _)
                        rw [hf3.out] at hask
                        have HA := Pal.hid hask
                        have hr0d : decide (0 ≤ r) = true := by simpa using f1
                        have hz1 : r.tmod s = 0 := by rw [Int.tmod_eq_emod_of_nonneg f1]; exact hf2.out
                        have hz2 : r % s = 0 := hf2.out
                        have hs0 : ¬ s = 0 := by omega
                        have hs0b : (s == 0) = false := by simpa using hs0
                        clear hask
                        go_wp2_with fail
                        refine HA.out.mono ?_
                        rintro e w4 ⟨x1, x2, x3, rfl, hc4⟩
                        have hcE4 := (HCH.out.trans hc4 (by simp)).alloc (.cells #[z64 x1, z64 x2, z64 x3] 31)
                        clear hc4
                        go_wp2_with (go_at_call 12; refine (num_rg _ _).mono ?_; rintro e w' ⟨rfl, rfl⟩)
                        refine (HW.out _).mono ?_
                        rintro e w5 ⟨rfl, hcW⟩
                        have hcW : Chg [] Y w5 := Chg.trans hcE4 hcW (by simp)
                        have t6 : Boxed w5 b6 4 (.bool false) := hcW.heap S6Y.out (by simp)
                        have x6 := t6.cell
                        have f6 := t6.frozen
                        have l6 := t6.lt
                        have t6' := t6.set (.bool true)
                        have hcf : Chg [b6] Y (w5.setCell ⟨b6, 0, none⟩ (.bool true)) := (hcW.mono (T := [b6]) (by simp)).setCell (.inl (by simp)) _
                        have hk2 := hcf.heap HK2.out (by simp; omega)
                        have hk1 := hcf.heap HK1.out (by simp; omega)
                        have HFF := Pal.hid (HCY.out.trans hcf (by simp; omega))
                        have HT6 := Pal.hid t6'
                        clear hcf t6' t6
                        go_wp2_with fail
                        rw [← HQ.out]
                        have hb6 : b6 ≠ D1 ∧ b6 ≠ D2 := by omega
                        have t6a := putObj_far (D := D2) (o' := .deferred none) HT6.out hb6.2
                        have t6b := putObj_far (D := D1) (o' := .deferred none) t6a hb6.1
                        have x6b := Boxed.cell t6b
                        refine Pal.leave_mark hk2 (Pal.leave_mark (putObj_far hk1 hD12) (Pal.leave_end (.bool true) ?_ ⟨rfl, (HFF.out.grown (grownBy_putObj' _ D2 (.deferred none)) (fun k hk => by cases hk; right; omega)).grown (grownBy_putObj' _ D1 (.deferred none)) (fun k hk => by cases hk; right; omega)⟩))
                        simp [results, Try.results4, go_sem, x6b]
                    · have hqd : decide (q < r) = false := by simpa using hqr
                      have hask := HASK.out _ HCH.out r f1 (Int.le_refl _)
                      rw [hf3.out] at hask
                      have HA := Pal.hid hask
                      have hr0d : decide (0 ≤ r) = true := by simpa using f1
                      have hz1 : r.tmod s = 0 := by rw [Int.tmod_eq_emod_of_nonneg f1]; exact hf2.out
                      have hz2 : r % s = 0 := hf2.out
                      have hs0 : ¬ s = 0 := by omega
                      have hs0b : (s == 0) = false := by simpa using hs0
                      clear hask
                      go_wp2_with fail
                      refine HA.out.mono ?_
                      rintro e w4 ⟨x1, x2, x3, rfl, hc4⟩
                      have hcE4 := (HCH.out.trans hc4 (by simp)).alloc (.cells #[z64 x1, z64 x2, z64 x3] 31)
                      clear hc4
                      go_wp2_with (go_at_call 12; refine (num_rg _ _).mono ?_; rintro e w' ⟨rfl, rfl⟩)
                      refine (HW.out _).mono ?_
                      rintro e w5 ⟨rfl, hcW⟩
                      have hcW : Chg [] Y w5 := Chg.trans hcE4 hcW (by simp)
                      have t6 : Boxed w5 b6 4 (.bool false) := hcW.heap S6Y.out (by simp)
                      have x6 := t6.cell
                      have f6 := t6.frozen
                      have l6 := t6.lt
                      have t6' := t6.set (.bool true)
                      have hcf : Chg [b6] Y (w5.setCell ⟨b6, 0, none⟩ (.bool true)) := (hcW.mono (T := [b6]) (by simp)).setCell (.inl (by simp)) _
                      have hk2 := hcf.heap HK2.out (by simp; omega)
                      have hk1 := hcf.heap HK1.out (by simp; omega)
                      have HFF := Pal.hid (HCY.out.trans hcf (by simp; omega))
                      have HT6 := Pal.hid t6'
                      clear hcf t6' t6
                      go_wp2_with fail
                      rw [← HQ.out]
                      have hb6 : b6 ≠ D1 ∧ b6 ≠ D2 := by omega
                      have t6a := putObj_far (D := D2) (o' := .deferred none) HT6.out hb6.2
                      have t6b := putObj_far (D := D1) (o' := .deferred none) t6a hb6.1
                      have x6b := Boxed.cell t6b
                      refine Pal.leave_mark hk2 (Pal.leave_mark (putObj_far hk1 hD12) (Pal.leave_end (.bool true) ?_ ⟨rfl, (HFF.out.grown (grownBy_putObj' _ D2 (.deferred none)) (fun k hk => by cases hk; right; omega)).grown (grownBy_putObj' _ D1 (.deferred none)) (fun k hk => by cases hk; right; omega)⟩))
                      simp [results, Try.results4, go_sem, x6b]
          case stop2 =>
            rintro D c k Y hD hk hf
            exact hf.elim
        case stop =>
          rintro D c k X hD hk hf
          exact hf.elim
end Go.Proofs.Ytlmablpekedcfaa
