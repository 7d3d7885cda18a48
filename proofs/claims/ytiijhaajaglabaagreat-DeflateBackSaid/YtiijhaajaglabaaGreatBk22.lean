/- A match, behind its length's symbol. Symbols by two codes, up to the end. -/
import Derived.Test.YtiijhaajaglabaaGreatBk20
import Derived.Test.YtiijhaajaglabaaGreatBk21
import Derived.Test.YtiijhaajaglabaaGreatBk11
set_option linter.unusedVariables false
set_option linter.unusedSimpArgs false
set_option linter.unusedVariables false
namespace Go.Proofs.YtiijhaajaglabaaGreat
open Go.RowKit Pal Pal.Cd Pal.Df
theorem symD_ok {l : List Int} {bs out : List Nat} {m a : Nat} {t : Nat × Nat × Int} (ht : tkE l (((bitsOfBytes bs).drop a).take 15) = t) (h : t.2.2 = 0) : symD l bs m ⟨a,out⟩ = .ok (t.1,⟨a + t.2.1,out⟩) := by
 subst ht
 exact if_pos h
theorem symD_no {l : List Int} {bs out : List Nat} {m a : Nat} {t : Nat × Nat × Int} (ht : tkE l (((bitsOfBytes bs).drop a).take 15) = t) (h : t.2.2 ≠ 0) : symD l bs m ⟨a,out⟩ = .error t.2.2 := by
 subst ht
 exact if_neg h
def Aside (s p : Nat) (ov : Value) (c : Nat) (lv sv : Value) : Prop := c ∉ sfp s p ov ∧ (∀ k,lv.ownBlock = some k → k ∉ sfp s p ov) ∧ ∀ k,sv.ownBlock = some k → k ∉ sfp s p ov
theorem Aside.cod {w w' : World} {s p c : Nat} {ov lv sv : Value} {l : List Int} (h : Aside s p ov c lv sv) (hc : Cod w c lv sv l) (hx : Chg (sfp s p ov) w w') : Cod w' c lv sv l := hc.keep hx h.1 h.2.1 h.2.2
theorem Aside.next {w : World} {s p c : Nat} {ov ov' lv sv : Value} {l : List Int} (h : Aside s p ov c lv sv) (hc : Cod w c lv sv l) (hat : ∀ k,ov'.ownBlock = some k → ov.ownBlock = some k ∨ w.heap.size ≤ k) : Aside s p ov' c lv sv := by
 have key : ∀ k,k < w.heap.size → k ∉ sfp s p ov → k ∉ sfp s p ov' := fun k hk hn hm => by
  rcases List.mem_cons.1 hm with rfl | hm
  ·exact hn (by simp)
  ·rcases List.mem_cons.1 hm with rfl | hm
   ·exact hn (by simp)
   ·cases e : ov'.ownBlock with
    | none => rw [e] at hm; simp at hm
    | some q =>
     rw [e] at hm
     obtain rfl : k = q := by simpa using hm
     rcases hat k e with h3 | h3
     ·exact hn (by simp [h3])
     ·omega
 exact ⟨key _ (lt_heap hc.box) h.1,fun k hk => key k (own_lt hc.lens hk) (h.2.1 k hk),fun k hk => key k (own_lt hc.syms hk) (h.2.2 k hk)⟩
theorem own_byte {w : World} {x : Nat} : Rd (w.alloc (.cells #[b8 x] 5)) 1 (.slice (some ⟨w.heap.size,0,none⟩) 1 1) 1 ([x].map b8) := Rd.one (m := 1) (c := 1) (sz := 1) (heap_new w _) rfl
theorem Strm.le8 {w : World} {s p : Nat} {g : Option Nat} {ov : Value} {bs : List Nat} {a : Nat} {out : List Nat} {most : Nat} (h : Strm w s p g ov bs a out most) : a ≤ 8 * bs.length ∧ bs.length ≤ 1099511627776 := by
 obtain ⟨_,_,_,_,_,_,h1,h2⟩ := h.rd
 exact ⟨h1,h2⟩
theorem df_pos : ∀ i,i < 30 → 1 ≤ df.getD i 0 := by decide +kernel
set_option maxRecDepth 100000 in
set_option maxHeartbeats 16000000 in
theorem dmatch_any {w : World} {s p c : Nat} {g : Option Nat} {ov lv sv : Value} {bs : List Nat} {a : Nat} {out : List Nat} {most : Nat} {d : List Int} (x : Nat) (hx1 : 256 < x) (hx2 : x ≤ 285) (h : Strm w s p g ov bs a out most) (hd : Cod w c lv sv d) (hr : ∀ y ∈ d,0 ≤ y ∧ y ≤ 15) (hl : d.length ≤ 320) (has : Aside s p ov c lv sv) :
  Calls Tryz.prog 121 #[.pointer (some ⟨s,0,none⟩),z64 x,.pointer (some ⟨c,0,none⟩)] w fun e w' => After unitV w s p g ov bs most e w' (matchD d x bs most ⟨a,out⟩) := by
 have H := Pal.hid h
 have hlim := h.lim
 have hmm := h.hm
 have HCD := Pal.hid hd
 have HAS := Pal.hid has
 have HRG := Pal.hid hr
 have hal := h.le8.1
 obtain ⟨oo,oc,rfl⟩ := own_slice h.own
 have HK : Hid (∀ wx,Chg [p] w wx → s < wx.heap.size ∧ wx.cell? ⟨s,0,none⟩ = some (.pointer (some ⟨p,0,none⟩)) ∧ wx.cell? ⟨s,1,none⟩ = some (.slice oo out.length oc) ∧ wx.cell? ⟨s,2,none⟩ = some (z64 most) ∧ wx.frozen? ⟨s,1,none⟩ = false) := Pal.hid fun wx hc => strm_cells h hc
 have HTD : Hid (∀ (wx : World) (a2 : Nat),Chg [p] w wx → Rdr wx p g bs a2 → Calls Tryz.prog 120 #[.pointer (some ⟨c,0,none⟩),.pointer (some ⟨p,0,none⟩)] wx fun e w' =>
   e = .returned (.tuple #[z64 (tkE d (((bitsOfBytes bs).drop a2).take 15)).1,z64 (tkE d (((bitsOfBytes bs).drop a2).take 15)).2.2]) ∧ Rdr w' p g bs (a2 + (tkE d (((bitsOfBytes bs).drop a2).take 15)).2.1) ∧ Chg [p] wx w') := Pal.hid fun wx a2 hc hrx =>
  take_any (hd.keep hc (fun e => has.1 (by simp at e; simp [e])) (fun k hk e => has.2.1 k hk (by simp at e; simp [e])) (fun k hk e => has.2.2 k hk (by simp at e; simp [e]))) hr hl hrx (fun e => has.1 (by simp [e])) (fun e => has.2.2 p e (by simp))
 obtain ⟨k,rfl⟩ : ∃ k,x = 257 + k := ⟨x - 257,by omega⟩
 have hk29 : k < 29 := by omega
 obtain ⟨r,hrr⟩ : ∃ r,r = matchD d (257 + k) bs most ⟨a,out⟩ := ⟨_,rfl⟩
 rw [← hrr]
 have HOL := Pal.hid (fun wx => Lz.ofLength_in k wx hk29)
 have hlw := lw_small k hk29
 have hlf := lf_small k hk29
 obtain ⟨W1,hW1⟩ : ∃ W1,W1 = lw.getD k 0 := ⟨_,rfl⟩
 obtain ⟨F1,hF1⟩ : ∃ F1,F1 = lf.getD k 0 := ⟨_,rfl⟩
 rw [← hW1,← hF1] at HOL
 rw [← hW1] at hlw
 rw [← hF1] at hlf
 have HR : Hid (r = (seq (takeD W1) fun more => seq (whenD (257 + k = 284 ∧ more = 31) 152) fun _ => seq (symD d) fun y => seq (whenD (29 < y) 152) fun _ =>
  seq (takeD (dw.getD y 0)) fun far => seq (farD (df.getD y 0 + far)) fun _ => growD (df.getD y 0 + far) (F1 + more)) bs most ⟨a,out⟩) := Pal.hid (by
   rw [hrr,hW1,hF1]
   unfold matchD
   rw [show 257 + k - 257 = k by omega])
 clear hrr h hd has hr hx1 hx2 hW1 hF1
 obtain ⟨q0,q1,q2,q3,q4⟩ := HK.out w (Chg.refl _ _)
 go_enter Tryz.func121,Tryz.ntmps121
 go_wp2_with fail
 refine (HOL.out w).mono ?_
 rintro e w1 ⟨rfl,c1⟩
 have HC1 : Hid (Chg [p] w w1) := Pal.hid (c1.mono (by simp))
 have HR1 : Hid (Rdr w1 p g bs a) := Pal.hid (H.out.rd.keep c1 (by simp))
 clear q0 q1 q2 q3 q4 c1
 obtain ⟨q0,q1,q2,q3,q4⟩ := HK.out w1 HC1.out
 go_wp2_with fail
 by_cases h1 : a + W1 ≤ 8 * bs.length
 ·have hR := HR.out.trans (seq_of (takeD_ok h1))
  have hn := num_lt bs a W1
  have hn13 : 2 ^ W1 ≤ 2 ^ 13 := Nat.pow_le_pow_right (by omega) hlw
  have HT := Pal.hid (take_ok p g bs a W1 w1 HR1.out (by omega) h1)
  generalize numOf (((bitsOfBytes bs).drop a).take W1) = more at *
  have hm13 : more < 8192 := by omega
  have HRm := Pal.hid hR
  clear hR hn hn13
  refine HT.out.mono ?_
  rintro e w2 ⟨rfl,r2,c2⟩
  have HR2 := Pal.hid r2
  have HC2 := Pal.hid (HC1.out.trans c2 (by simp))
  clear q0 q1 q2 q3 q4 r2 c2
  obtain ⟨q0,q1,q2,q3,q4⟩ := HK.out w2 HC2.out
  go_wp2_with fail
  refine (must64_ok _ _).mono ?_
  rintro e w' ⟨rfl,hw'⟩
  rw [hw']
  clear hw'
  have hwm : IntKind.i64.wrap (more : Int) = more := IntWalk.i64_in _ (by omega)
  by_cases h2 : 257 + k = 284 ∧ more = 31
  ·have HRR : Hid (r = .error 152) := Pal.hid (by rw [HRm.out]; exact when_yes h2)
   obtain ⟨hk1,hm1⟩ := h2
   obtain rfl : k = 27 := by omega
   subst hm1
   go_wp2_with fail
   refine ⟨rfl,?_⟩
   rw [HRR.out]
   exact ⟨rfl,toS HC2.out⟩
  ·have HRn := Pal.hid (HRm.out.trans (when_no h2))
   obtain ⟨n,hn⟩ : ∃ n,n = F1 + more := ⟨_,rfl⟩
   have hwn : IntKind.i64.wrap ((F1 : Int) + more) = (n : Int) := by rw [IntWalk.i64_in _ (by omega)]; omega
   rw [← hn] at HRn
   have hnb : n ≤ 41000 := by omega
   clear hn
   by_cases hk27 : k = 27
   ·subst hk27
    have hmb : ((more : Int) == 31) = false := by simp; omega
    clear h2 HRm
    go_wp2_with fail
    obtain ⟨t,ht⟩ : ∃ t,tkE d (((bitsOfBytes bs).drop (a + W1)).take 15) = t := ⟨_,rfl⟩
    have HT := Pal.hid (HTD.out w2 (a + W1) HC2.out HR2.out)
    rw [ht] at HT
    obtain ⟨y,ny,ey⟩ := t
    simp only at HT
    have HTT := Pal.hid ht
    clear ht
    refine HT.out.mono ?_
    rintro e w3 ⟨rfl,r3,c3⟩
    have HR3 := Pal.hid r3
    have HC3 := Pal.hid (HC2.out.trans c3 (by simp))
    clear q0 q1 q2 q3 q4 r3 c3 HT
    obtain ⟨q0,q1,q2,q3,q4⟩ := HK.out w3 HC3.out
    go_wp2_with fail
    by_cases hE : ey = 0
    ·subst hE
     have HRy := Pal.hid (HRn.out.trans (seq_of (symD_ok HTT.out rfl)))
     simp only at HRy
     refine (mustIn_ok _ _).mono ?_
     rintro e w' ⟨rfl,hw'⟩
     rw [hw']
     clear hw'
     by_cases hy : 29 < y
     ·have HRR : Hid (r = .error 152) := Pal.hid (by rw [HRy.out]; exact when_yes hy)
      have hyd : decide ((29 : Int) < y) = true := decide_eq_true (by omega)
      have hyd2 : decide (29 < y) = true := decide_eq_true hy
      go_wp2_with fail
      refine ⟨rfl,?_⟩
      rw [HRR.out]
      exact ⟨rfl,toS HC3.out⟩
     ·have HRz := Pal.hid (HRy.out.trans (when_no hy))
      have hyd : decide ((29 : Int) < y) = false := decide_eq_false (by omega)
      have hyd2 : decide (29 < y) = false := decide_eq_false hy
      have hyi : ¬ (29 : Int) < y := by omega
      have HOD := Pal.hid (fun wx => Lz.ofDistance_in y wx (by omega))
      have hdw := dw_small y (by omega)
      have hdf := df_small y (by omega)
      have hdp := df_pos y (by omega)
      generalize dw.getD y 0 = W2 at *
      generalize df.getD y 0 = D1 at *
      go_wp2_with fail
      refine (HOD.out w3).mono ?_
      rintro e w4 ⟨rfl,c4⟩
      have HC4 : Hid (Chg [p] w w4) := Pal.hid (HC3.out.trans c4 (by simp))
      have HR4 : Hid (Rdr w4 p g bs (a + W1 + ny)) := Pal.hid (HR3.out.keep c4 (by simp))
      clear q0 q1 q2 q3 q4 c4
      have ha4 : a + W1 + ny ≤ 8 * bs.length := by obtain ⟨_,_,_,_,_,_,h1,_⟩ := HR4.out; exact h1
      obtain ⟨q0,q1,q2,q3,q4⟩ := HK.out w4 HC4.out
      go_wp2_with fail
      by_cases h3 : a + W1 + ny + W2 ≤ 8 * bs.length
      ·have hR := HRz.out.trans (seq_of (takeD_ok h3))
       have hf := num_lt bs (a + W1 + ny) W2
       have hf13 : 2 ^ W2 ≤ 2 ^ 13 := Nat.pow_le_pow_right (by omega) hdw
       have HT := Pal.hid (take_ok p g bs (a + W1 + ny) W2 w4 HR4.out (by omega) h3)
       generalize numOf (((bitsOfBytes bs).drop (a + W1 + ny)).take W2) = far at *
       have hfb : far < 8192 := by omega
       have HRf := Pal.hid hR
       clear hR hf hf13
       refine HT.out.mono ?_
       rintro e w5 ⟨rfl,r5,c5⟩
       have HR5 := Pal.hid r5
       have HC5 := Pal.hid (HC4.out.trans c5 (by simp))
       clear q0 q1 q2 q3 q4 r5 c5 HT
       obtain ⟨q0,q1,q2,q3,q4⟩ := HK.out w5 HC5.out
       go_wp2_with fail
       refine (must64_ok _ _).mono ?_
       rintro e w' ⟨rfl,hw'⟩
       rw [hw']
       clear hw'
       obtain ⟨f,hfd⟩ : ∃ f,f = D1 + far := ⟨_,rfl⟩
       have hwf0 : IntKind.i64.wrap (far : Int) = far := IntWalk.i64_in _ (by omega)
       have hwf : IntKind.i64.wrap ((D1 : Int) + far) = (f : Int) := by rw [IntWalk.i64_in _ (by omega)]; omega
       rw [← hfd] at HRf
       have hfb2 : f ≤ 41000 := by omega
       have hf1 : 1 ≤ f := by omega
       have HFD := Pal.hid hfd
       clear hfd
       by_cases h4 : out.length < f
       ·have HRR : Hid (r = .error 140) := Pal.hid (by rw [HRf.out]; exact seq_bad (if_pos h4))
        have h4d : decide ((out.length : Int) < f) = true := decide_eq_true (by omega)
        have h4e : decide (out.length < f) = true := decide_eq_true h4
        go_wp2_with fail
        refine ⟨rfl,?_⟩
        rw [HRR.out]
        exact ⟨rfl,toS HC5.out⟩
       ·have HRg := Pal.hid (HRf.out.trans (seq_of (if_neg h4)))
        have h4i : ¬ (out.length : Int) < f := by omega
        have h4d : decide ((out.length : Int) < f) = false := decide_eq_false h4i
        have h4e : decide (out.length < f) = false := decide_eq_false h4
        obtain ⟨R,hR⟩ : ∃ R,R = most - out.length := ⟨_,rfl⟩
        have hwR : IntKind.i64.wrap ((most : Int) - out.length) = (R : Int) := by rw [IntWalk.i64_in _ (by omega)]; omega
        by_cases h5 : R < n
        ·have HRR : Hid (r = .error 141) := Pal.hid (by rw [HRg.out]; exact if_pos (by rw [← hR]; exact h5))
         have h5i : (R : Int) < n := by omega
         have h5d : decide ((R : Int) < n) = true := decide_eq_true h5i
         have h5e : decide (R < n) = true := decide_eq_true h5
         clear hR
         go_wp2_with fail
         go_quiet (fail)
         go_wp2_with fail
         refine ⟨rfl,?_⟩
         rw [HRR.out]
         exact ⟨rfl,toS (HC5.out.drewN _)⟩
        ·have HRR : Hid (r = .ok ((),⟨a + W1 + ny + W2,grow out f n⟩)) := Pal.hid (by rw [HRg.out]; exact if_neg (by rw [← hR]; exact h5))
         have h5i : ¬ (R : Int) < n := by omega
         have h5d : decide ((R : Int) < n) = false := decide_eq_false h5i
         have h5e : decide (R < n) = false := decide_eq_false h5
         have HRL : Hid (out.length + n ≤ most) := Pal.hid (by omega)
         clear hR
         go_wp2_with fail
         go_quiet (fail)
         go_wp2_with fail
         have hq : Chg [p] w (w5.drewN nq) := HC5.out.drewN _
         have HS6 := Pal.hid (H.out.read (HR5.out.of (w' := w5.drewN nq) rfl) hq)
         have HC6 := Pal.hid hq
         generalize w5.drewN nq = w6 at *
         obtain ⟨A4,hA4⟩ : ∃ A4,A4 = a + W1 + ny + W2 := ⟨_,rfl⟩
         rw [← hA4] at HRR HS6
         clear hA4
         go_loopw [93] (fun iv wr => ∃ (i : Nat) (oi : Option Addr) (ci : Nat),iv = z64 i ∧ Hid (i ≤ n) ∧ Hid (Strm wr s p g (.slice oi (out.length + i) ci) bs A4 (grow out f i) most) ∧ Hid (∀ k,(Value.slice oi (out.length + i) ci).ownBlock = some k → (Value.slice oo out.length oc).ownBlock = some k ∨ w.heap.size ≤ k) ∧ Hid (Chg (sfp s p (.slice oo out.length oc)) w wr)) (fun iv _ => n - (intOf iv).toNat)
         case atStart => exact ⟨0,oo,oc,rfl,Pal.hid (Nat.zero_le _),HS6,Pal.hid (fun k hk => .inl hk),Pal.hid (toS HC6.out)⟩
         case round =>
          obtain ⟨i,oi,ci,rfl,HI,HST,HAT,HCH⟩ := hrel
          have hi := HI.out
          by_cases hlt : i < n
          ·have hlti : (i : Int) < n := by omega
           have hwi : IntKind.i64.wrap ((i : Int) + 1) = ((i + 1 : Nat) : Int) := IntWalk.i64_in _ (by omega)
           obtain ⟨L,hL⟩ : ∃ L,L = out.length + i := ⟨_,rfl⟩
           have HLL := Pal.hid hL
           have hlg := length_grow f i out
           rw [← hL] at hlg HST HAT
           try rw [← hL]
           have hLb : L ≤ 1048576 := by have := HRL.out; omega
           have hLR : L + 1 ≤ most := by have := HRL.out; omega
           obtain ⟨I,hI⟩ : ∃ I,I = L - f := ⟨_,rfl⟩
           have hwI : IntKind.i64.wrap ((L : Int) - f) = (I : Int) := by rw [IntWalk.i64_in _ (by omega)]; omega
           have hIL : (I : Int) < L := by omega
           have hI0 : ¬ (I : Int) < 0 := by omega
           have hII : I < L := by omega
           have hbx := HST.out.box
           have hbo := HST.out.own
           rw [hlg] at hbo
           obtain ⟨G,rfl,hGl⟩ := own_addr hbo (by omega)
           have hel := own_cell hbo I (map_at (f := b8) (l := grow out f i) (by omega))
           have HSU := Pal.hid (grow_succ out f i)
           rw [← hL,← hI] at HSU
           have hYb := getD_bytes (acc := grow out f i) HST.out.by_ I
           generalize (grow out f i).getD I 0 = Y at *
           have hsl := lt_heap hbx
           have d0 := cell_at (i := 0) hbx
           have d1 := cell_at (i := 1) hbx
           have df := free_at (i := 1) hbx
           have HGS : Hid (G ≠ s) := Pal.hid (fun e => HST.out.os (by rw [← e]; rfl))
           have cd : Chg [] wr wr.drew := (Chg.refl _ wr).drew
           have HSS : Hid (∀ wx,Chg [G] wr wx → s < wx.heap.size ∧ wx.cell? ⟨s,1,none⟩ = some (.slice (some ⟨G,0,none⟩) L ci) ∧ wx.frozen? ⟨s,1,none⟩ = false) := Pal.hid fun wx hx => by
            have := hx.heap hbx (by have := HGS.out; simp; omega)
            exact ⟨lt_heap this,cell_at (i := 1) this,free_at (i := 1) this⟩
           have HEL := Pal.hid hel
           clear hL hI hel hbx hlg
           go_wp2_with fail
           refine Pal.region_last (S := fun wx => s < wx.heap.size ∧ wx.cell? ⟨s,1,none⟩ = some (.slice (some ⟨G,0,none⟩) L ci) ∧ wx.frozen? ⟨s,1,none⟩ = false) 22 (by kernel_rfl) rfl (by decide) rfl rfl (by kernel_rfl) (by kernel_rfl) (HSS.out _ (cd.mono (by simp))) (fun hHeld => ?_)
           simp only [List.take_succ_cons,List.take_zero,List.cons_append,List.nil_append,Pal.nop]
           have hbw : Own wr.drew 5 1 (.slice (some ⟨G,0,none⟩) L ci) L ((grow out f i).map b8) := cd.owns hbo (by simp)
           generalize wr.drew = W0 at cd hHeld hbw ⊢
           have hel := cd.cell HEL.out (by simp)
           refine Pal.hT 0 ?_ rfl (by kernel_rfl) (fun _ _ _ h=>h) (.inl ⟨by rfl,?_⟩) hHeld ?_
           rotate_left
           ·(intro w hSw; (try dsimp only at hSw); go_simp)
            first | done | with_reducible rfl
           (try simp only [Act.put,Pal.sA,Pal.sZ,Pal.sS])
           refine Pal.hT 1 ?_ rfl (by kernel_rfl) (fun _ _ _ h=>h) (.inl ⟨by rfl,?_⟩) hHeld ?_
           rotate_left
           ·(intro w hSw; (try dsimp only at hSw); go_simp)
            first | done | with_reducible rfl
           (try simp only [Act.put,Pal.sA,Pal.sZ,Pal.sS])
           refine Pal.hT 2 ?_ rfl (by kernel_rfl) (fun _ _ _ h=>h) (.inl ⟨by rfl,?_⟩) hHeld ?_
           rotate_left
           ·(intro w hSw; (try dsimp only at hSw); go_simp)
            first | done | with_reducible rfl
           (try simp only [Act.put,Pal.sA,Pal.sZ,Pal.sS])
           refine Pal.hT 3 ?_ rfl (by kernel_rfl) (fun _ _ _ h=>h) (.inl ⟨by rfl,?_⟩) hHeld ?_
           rotate_left
           ·(intro w hSw; (try dsimp only at hSw); go_simp)
            first | done | with_reducible rfl
           (try simp only [Act.put,Pal.sA,Pal.sZ,Pal.sS])
           refine Pal.hT 4 ?_ rfl (by kernel_rfl) (fun _ _ _ h=>h) (.inl ⟨by rfl,?_⟩) hHeld ?_
           rotate_left
           ·(intro w hSw; (try dsimp only at hSw); go_simp)
            first | done | with_reducible rfl
           (try simp only [Act.put,Pal.sA,Pal.sZ,Pal.sS])
           refine Pal.hT 5 ?_ rfl (by kernel_rfl) (fun _ _ _ h=>h) (.inl ⟨by rfl,?_⟩) hHeld ?_
           rotate_left
           ·(intro w hSw; (try dsimp only at hSw); go_simp)
            first | done | with_reducible rfl
           (try simp only [Act.put,Pal.sA,Pal.sZ,Pal.sS])
           refine Pal.hT 6 ?_ rfl (by kernel_rfl) (fun _ _ _ h=>h) (.inl ⟨by rfl,?_⟩) hHeld ?_
           rotate_left
           ·(intro w hSw; (try dsimp only at hSw); go_simp)
            first | done | with_reducible rfl
           (try simp only [Act.put,Pal.sA,Pal.sZ,Pal.sS])
           refine Pal.hT 7 ?_ rfl (by kernel_rfl) (fun _ _ _ h=>h) (.inl ⟨by rfl,?_⟩) hHeld ?_
           rotate_left
           ·(intro w hSw; (try dsimp only at hSw); go_simp)
            first | done | with_reducible rfl
           (try simp only [Act.put,Pal.sA,Pal.sZ,Pal.sS])
           refine Pal.hT 8 ?_ rfl (by kernel_rfl) (fun _ _ _ h=>h) (.inl ⟨by rfl,?_⟩) hHeld ?_
           rotate_left
           ·(intro w hSw; (try dsimp only at hSw); go_simp)
            first | done | with_reducible rfl
           (try simp only [Act.put,Pal.sA,Pal.sZ,Pal.sS])
           refine Pal.hT 9 ?_ rfl (by kernel_rfl) (fun _ _ _ h=>h) (.inl ⟨by rfl,?_⟩) hHeld ?_
           rotate_left
           ·(intro w hSw; (try dsimp only at hSw); go_simp)
            first | done | with_reducible rfl
           (try simp only [Act.put,Pal.sA,Pal.sZ,Pal.sS])
           refine Pal.hT 10 ?_ rfl (by kernel_rfl) (fun _ _ _ h=>h) (.inl ⟨by rfl,?_⟩) hHeld ?_
           rotate_left
           ·(intro w hSw; (try dsimp only at hSw); go_simp)
            first | done | with_reducible rfl
           (try simp only [Act.put,Pal.sA,Pal.sZ,Pal.sS])
           refine Pal.hT 11 ?_ rfl (by kernel_rfl) (fun _ _ _ h=>h) (.inl ⟨by rfl,?_⟩) hHeld ?_
           rotate_left
           ·(intro w hSw; (try dsimp only at hSw); go_simp)
            first | done | with_reducible rfl
           (try simp only [Act.put,Pal.sA,Pal.sZ,Pal.sS])
           refine Pal.hT 12 ?_ rfl (by kernel_rfl) (fun _ _ _ h=>h) (.inl ⟨by rfl,?_⟩) hHeld ?_
           rotate_left
           ·(intro w hSw; (try dsimp only at hSw); go_simp)
            first | done | with_reducible rfl
           (try simp only [Act.put,Pal.sA,Pal.sZ,Pal.sS])
           refine Pal.hT 13 ?_ rfl (by kernel_rfl) (fun _ _ _ h=>h) (.inl ⟨by rfl,?_⟩) hHeld ?_
           rotate_left
           ·(intro w hSw; (try dsimp only at hSw); go_simp)
            first | done | with_reducible rfl
           (try simp only [Act.put,Pal.sA,Pal.sZ,Pal.sS])
           refine Pal.hT 14 ?_ rfl (by kernel_rfl) (fun _ _ _ h=>h) (.inl ⟨by rfl,?_⟩) hHeld ?_
           rotate_left
           ·(intro w hSw; (try dsimp only at hSw); go_simp)
            first | done | with_reducible rfl
           (try simp only [Act.put,Pal.sA,Pal.sZ,Pal.sS])
           refine Pal.hT 15 ?_ rfl (by kernel_rfl) (fun _ _ _ h=>h) (.inl ⟨by rfl,?_⟩) hHeld ?_
           rotate_left
           ·(intro w hSw; (try dsimp only at hSw); go_simp)
            first | done | with_reducible rfl
           (try simp only [Act.put,Pal.sA,Pal.sZ,Pal.sS])
           refine Pal.hT 16 ?_ rfl (by kernel_rfl) (fun _ _ _ h=>h) (.inl ⟨by rfl,?_⟩) hHeld ?_
           rotate_left
           ·(intro w hSw; (try dsimp only at hSw); go_simp)
            first | done | with_reducible rfl
           (try simp only [Act.put,Pal.sA,Pal.sZ,Pal.sS])
           refine Pal.held_one (i := 17) rfl (by kernel_rfl) (by rfl) (fun K hK => ?_)
           go_simp
           refine hK.out _ _ hHeld ?_
           clear hK K
           refine Pal.held_one (i := 18) rfl (by kernel_rfl) (by rfl) (fun K hK => ?_)
           go_simp
           have hrd := own_byte (w := W0) (x := Y)
           have ca : Chg [] wr (W0.alloc (.cells #[b8 Y] 5)) := cd.alloc _
           generalize W0.alloc (.cells #[b8 Y] 5) = Wa at hrd ca ⊢
           have st1 := HST.out.still ca
           have hbw2 := st1.own
           rw [length_grow,HLL.out.symm] at hbw2
           have hHeld := HSS.out _ (ca.mono (by simp))
           refine hK.out _ _ hHeld ?_
           clear hK K
           refine Pal.held_one (i := 19) rfl (by kernel_rfl) (by rfl) (fun K hK => ?_)
           refine wp_app sl_u8 (.tmp 99) (.tmp 113) rfl rfl rfl hbw2 hrd (oneCell_b8 _) (by omega) (by unfold maxLen; omega) ?_
           intro v6 w7 own6 chg6 hat6
           obtain ⟨ao6,cp6,rfl⟩ := own_slice own6
           (try simp only [Act.put,Pal.sA,Pal.sZ,Pal.sS])
           have chg6 : Chg [G] Wa w7 := chg6
           have hHeld := HSS.out _ ((ca.mono (T := [G]) (by simp)).trans chg6 (fun k hk => .inl hk))
           refine hK.out _ _ hHeld ?_
           clear hK K
           refine Pal.hT 20 ?_ rfl (by kernel_rfl) (fun _ _ _ h=>h) (.inl ⟨by rfl,?_⟩) hHeld ?_
           rotate_left
           ·(intro w hSw; (try dsimp only at hSw); go_simp)
            first | done | with_reducible rfl
           (try simp only [Act.put,Pal.sA,Pal.sZ,Pal.sS])
           refine Pal.hT 21 ?_ rfl (by kernel_rfl) (fun _ _ _ h=>h) (.inl ⟨by rfl,?_⟩) hHeld ?_
           rotate_left
           ·(intro w hSw; (try dsimp only at hSw); go_simp)
            first | done | with_reducible rfl
           (try simp only [Act.put,Pal.sA,Pal.sZ,Pal.sS])
           refine Pal.hT 22 ?_ rfl (by kernel_rfl) (fun _ _ _ h=>h) (.inl ⟨by rfl,?_⟩) hHeld ?_
           rotate_left
           ·(intro w hSw; (try dsimp only at hSw); go_simp)
            first | done | with_reducible rfl
           (try simp only [Act.put,Pal.sA,Pal.sZ,Pal.sS])
           refine wpAnyH_done (by kernel_rfl) ?_ _
           show Oper.wp _ _ _ _ _ _
           obtain ⟨k0,k1,k2⟩ := hHeld
           have hlen7 : (grow out f (i + 1)).length = L + 1 := by rw [length_grow,HLL.out]; omega
           have own7 : Own w7 5 1 (.slice ao6 (L + 1) cp6) (grow out f (i + 1)).length ((grow out f (i + 1)).map b8) := by
            rw [hlen7,HSU.out,List.map_append]
            exact own6
           have hfin := st1.told (ov' := .slice ao6 (L + 1) cp6) (out' := grow out f (i + 1)) chg6 own7 (by
            rw [HSU.out]
            intro x hx
            rcases List.mem_append.1 hx with h1 | h1
            ·exact HST.out.by_ x h1
            ·obtain rfl : x = Y := by simpa using h1
             exact hYb) (by rw [hlen7]; exact hLR) (fun k hk => by
            rcases hat6 with h1 | h1
            ·exact .inl (h1 ▸ hk)
            ·rw [h1] at hk; cases hk; exact .inr (Nat.le_refl _))
           have hsz : w.heap.size ≤ Wa.heap.size := Nat.le_trans HCH.out.size ca.size
           have hatF : ∀ k,(Value.slice ao6 (L + 1) cp6).ownBlock = some k → (Value.slice oo out.length oc).ownBlock = some k ∨ w.heap.size ≤ k := fun k hk => by
            rcases hat6 with h1 | h1
            ·exact HAT.out k (h1 ▸ hk)
            ·rw [h1] at hk; cases hk; exact .inr hsz
           have HFIN := Pal.hid hfin.1
           have HATF := Pal.hid hatF
           have HCHF := Pal.hid (sfp_trans HCH.out HAT.out ((ca.mono (S := []) (T := sfp s p (.slice (some ⟨G,0,none⟩) L ci)) (by simp)).trans (toO hfin.2) (fun k hk => .inl hk)))
           clear own6 chg6 hat6 own7 hfin hatF st1 hbw2 hrd ca cd hbw hel hlen7 hbo hsz hYb d0 d1 df
           go_simp
           go_wp2_with fail
           rw [show L + 1 = out.length + (i + 1) by have := HLL.out; omega] at HFIN HATF
           refine ⟨⟨i + 1,ao6,cp6,rfl,Pal.hid (by omega),?_,?_,?_⟩,by simp [intOf]; omega⟩
           ·rw [show out.length + (i + 1) = L + 1 by have := HLL.out; omega] at *
            exact HFIN
           ·exact HATF
           ·exact HCHF
          ·have hlti : ¬ (i : Int) < n := by omega
           obtain rfl : i = n := by omega
           go_wp2_with fail
           go_end0
           rw [HRR.out]
           exact ⟨rfl,_,HST.out,HAT.out,HCH.out⟩
      ·have HRR := Pal.hid (HRz.out.trans (seq_bad (takeD_no h3)))
       refine (take_far p g bs (a + W1 + ny) W2 w4 HR4.out (by omega) (by omega)).mono ?_
       rintro e w5 ⟨rfl,nq,rfl⟩
       go_wp2_with fail
       refine (must64_bad _ 120 _ (by decide)).mono ?_
       rintro e w' ⟨rfl,rfl⟩
       go_wp2_with fail
       refine ⟨rfl,?_⟩
       rw [HRR.out]
       exact ⟨rfl,toS (HC4.out.drewN _)⟩
    ·have HRR := Pal.hid (HRn.out.trans (seq_bad (symD_no HTT.out hE)))
     refine (mustIn_bad _ ey _ hE).mono ?_
     rintro e w' ⟨rfl,rfl⟩
     go_wp2_with fail
     refine ⟨rfl,?_⟩
     rw [HRR.out]
     exact ⟨rfl,toS HC3.out⟩
   ·have hkb : (((257 + k : Nat) : Int) == 284) = false := by simp; omega
    have hkb2 : ((257 : Int) + k == 284) = false := by simp; omega
    clear h2 HRm
    go_wp2_with fail
    obtain ⟨t,ht⟩ : ∃ t,tkE d (((bitsOfBytes bs).drop (a + W1)).take 15) = t := ⟨_,rfl⟩
    have HT := Pal.hid (HTD.out w2 (a + W1) HC2.out HR2.out)
    rw [ht] at HT
    obtain ⟨y,ny,ey⟩ := t
    simp only at HT
    have HTT := Pal.hid ht
    clear ht
    refine HT.out.mono ?_
    rintro e w3 ⟨rfl,r3,c3⟩
    have HR3 := Pal.hid r3
    have HC3 := Pal.hid (HC2.out.trans c3 (by simp))
    clear q0 q1 q2 q3 q4 r3 c3 HT
    obtain ⟨q0,q1,q2,q3,q4⟩ := HK.out w3 HC3.out
    go_wp2_with fail
    by_cases hE : ey = 0
    ·subst hE
     have HRy := Pal.hid (HRn.out.trans (seq_of (symD_ok HTT.out rfl)))
     simp only at HRy
     refine (mustIn_ok _ _).mono ?_
     rintro e w' ⟨rfl,hw'⟩
     rw [hw']
     clear hw'
     by_cases hy : 29 < y
     ·have HRR : Hid (r = .error 152) := Pal.hid (by rw [HRy.out]; exact when_yes hy)
      have hyd : decide ((29 : Int) < y) = true := decide_eq_true (by omega)
      have hyd2 : decide (29 < y) = true := decide_eq_true hy
      go_wp2_with fail
      refine ⟨rfl,?_⟩
      rw [HRR.out]
      exact ⟨rfl,toS HC3.out⟩
     ·have HRz := Pal.hid (HRy.out.trans (when_no hy))
      have hyd : decide ((29 : Int) < y) = false := decide_eq_false (by omega)
      have hyd2 : decide (29 < y) = false := decide_eq_false hy
      have hyi : ¬ (29 : Int) < y := by omega
      have HOD := Pal.hid (fun wx => Lz.ofDistance_in y wx (by omega))
      have hdw := dw_small y (by omega)
      have hdf := df_small y (by omega)
      have hdp := df_pos y (by omega)
      generalize dw.getD y 0 = W2 at *
      generalize df.getD y 0 = D1 at *
      go_wp2_with fail
      refine (HOD.out w3).mono ?_
      rintro e w4 ⟨rfl,c4⟩
      have HC4 : Hid (Chg [p] w w4) := Pal.hid (HC3.out.trans c4 (by simp))
      have HR4 : Hid (Rdr w4 p g bs (a + W1 + ny)) := Pal.hid (HR3.out.keep c4 (by simp))
      clear q0 q1 q2 q3 q4 c4
      have ha4 : a + W1 + ny ≤ 8 * bs.length := by obtain ⟨_,_,_,_,_,_,h1,_⟩ := HR4.out; exact h1
      obtain ⟨q0,q1,q2,q3,q4⟩ := HK.out w4 HC4.out
      go_wp2_with fail
      by_cases h3 : a + W1 + ny + W2 ≤ 8 * bs.length
      ·have hR := HRz.out.trans (seq_of (takeD_ok h3))
       have hf := num_lt bs (a + W1 + ny) W2
       have hf13 : 2 ^ W2 ≤ 2 ^ 13 := Nat.pow_le_pow_right (by omega) hdw
       have HT := Pal.hid (take_ok p g bs (a + W1 + ny) W2 w4 HR4.out (by omega) h3)
       generalize numOf (((bitsOfBytes bs).drop (a + W1 + ny)).take W2) = far at *
       have hfb : far < 8192 := by omega
       have HRf := Pal.hid hR
       clear hR hf hf13
       refine HT.out.mono ?_
       rintro e w5 ⟨rfl,r5,c5⟩
       have HR5 := Pal.hid r5
       have HC5 := Pal.hid (HC4.out.trans c5 (by simp))
       clear q0 q1 q2 q3 q4 r5 c5 HT
       obtain ⟨q0,q1,q2,q3,q4⟩ := HK.out w5 HC5.out
       go_wp2_with fail
       refine (must64_ok _ _).mono ?_
       rintro e w' ⟨rfl,hw'⟩
       rw [hw']
       clear hw'
       obtain ⟨f,hfd⟩ : ∃ f,f = D1 + far := ⟨_,rfl⟩
       have hwf0 : IntKind.i64.wrap (far : Int) = far := IntWalk.i64_in _ (by omega)
       have hwf : IntKind.i64.wrap ((D1 : Int) + far) = (f : Int) := by rw [IntWalk.i64_in _ (by omega)]; omega
       rw [← hfd] at HRf
       have hfb2 : f ≤ 41000 := by omega
       have hf1 : 1 ≤ f := by omega
       have HFD := Pal.hid hfd
       clear hfd
       by_cases h4 : out.length < f
       ·have HRR : Hid (r = .error 140) := Pal.hid (by rw [HRf.out]; exact seq_bad (if_pos h4))
        have h4d : decide ((out.length : Int) < f) = true := decide_eq_true (by omega)
        have h4e : decide (out.length < f) = true := decide_eq_true h4
        go_wp2_with fail
        refine ⟨rfl,?_⟩
        rw [HRR.out]
        exact ⟨rfl,toS HC5.out⟩
       ·have HRg := Pal.hid (HRf.out.trans (seq_of (if_neg h4)))
        have h4i : ¬ (out.length : Int) < f := by omega
        have h4d : decide ((out.length : Int) < f) = false := decide_eq_false h4i
        have h4e : decide (out.length < f) = false := decide_eq_false h4
        obtain ⟨R,hR⟩ : ∃ R,R = most - out.length := ⟨_,rfl⟩
        have hwR : IntKind.i64.wrap ((most : Int) - out.length) = (R : Int) := by rw [IntWalk.i64_in _ (by omega)]; omega
        by_cases h5 : R < n
        ·have HRR : Hid (r = .error 141) := Pal.hid (by rw [HRg.out]; exact if_pos (by rw [← hR]; exact h5))
         have h5i : (R : Int) < n := by omega
         have h5d : decide ((R : Int) < n) = true := decide_eq_true h5i
         have h5e : decide (R < n) = true := decide_eq_true h5
         clear hR
         go_wp2_with fail
         go_quiet (fail)
         go_wp2_with fail
         refine ⟨rfl,?_⟩
         rw [HRR.out]
         exact ⟨rfl,toS (HC5.out.drewN _)⟩
        ·have HRR : Hid (r = .ok ((),⟨a + W1 + ny + W2,grow out f n⟩)) := Pal.hid (by rw [HRg.out]; exact if_neg (by rw [← hR]; exact h5))
         have h5i : ¬ (R : Int) < n := by omega
         have h5d : decide ((R : Int) < n) = false := decide_eq_false h5i
         have h5e : decide (R < n) = false := decide_eq_false h5
         have HRL : Hid (out.length + n ≤ most) := Pal.hid (by omega)
         clear hR
         go_wp2_with fail
         go_quiet (fail)
         go_wp2_with fail
         have hq : Chg [p] w (w5.drewN nq) := HC5.out.drewN _
         have HS6 := Pal.hid (H.out.read (HR5.out.of (w' := w5.drewN nq) rfl) hq)
         have HC6 := Pal.hid hq
         generalize w5.drewN nq = w6 at *
         obtain ⟨A4,hA4⟩ : ∃ A4,A4 = a + W1 + ny + W2 := ⟨_,rfl⟩
         rw [← hA4] at HRR HS6
         clear hA4
         go_loopw [93] (fun iv wr => ∃ (i : Nat) (oi : Option Addr) (ci : Nat),iv = z64 i ∧ Hid (i ≤ n) ∧ Hid (Strm wr s p g (.slice oi (out.length + i) ci) bs A4 (grow out f i) most) ∧ Hid (∀ k,(Value.slice oi (out.length + i) ci).ownBlock = some k → (Value.slice oo out.length oc).ownBlock = some k ∨ w.heap.size ≤ k) ∧ Hid (Chg (sfp s p (.slice oo out.length oc)) w wr)) (fun iv _ => n - (intOf iv).toNat)
         case atStart => exact ⟨0,oo,oc,rfl,Pal.hid (Nat.zero_le _),HS6,Pal.hid (fun k hk => .inl hk),Pal.hid (toS HC6.out)⟩
         case round =>
          obtain ⟨i,oi,ci,rfl,HI,HST,HAT,HCH⟩ := hrel
          have hi := HI.out
          by_cases hlt : i < n
          ·have hlti : (i : Int) < n := by omega
           have hwi : IntKind.i64.wrap ((i : Int) + 1) = ((i + 1 : Nat) : Int) := IntWalk.i64_in _ (by omega)
           obtain ⟨L,hL⟩ : ∃ L,L = out.length + i := ⟨_,rfl⟩
           have HLL := Pal.hid hL
           have hlg := length_grow f i out
           rw [← hL] at hlg HST HAT
           try rw [← hL]
           have hLb : L ≤ 1048576 := by have := HRL.out; omega
           have hLR : L + 1 ≤ most := by have := HRL.out; omega
           obtain ⟨I,hI⟩ : ∃ I,I = L - f := ⟨_,rfl⟩
           have hwI : IntKind.i64.wrap ((L : Int) - f) = (I : Int) := by rw [IntWalk.i64_in _ (by omega)]; omega
           have hIL : (I : Int) < L := by omega
           have hI0 : ¬ (I : Int) < 0 := by omega
           have hII : I < L := by omega
           have hbx := HST.out.box
           have hbo := HST.out.own
           rw [hlg] at hbo
           obtain ⟨G,rfl,hGl⟩ := own_addr hbo (by omega)
           have hel := own_cell hbo I (map_at (f := b8) (l := grow out f i) (by omega))
           have HSU := Pal.hid (grow_succ out f i)
           rw [← hL,← hI] at HSU
           have hYb := getD_bytes (acc := grow out f i) HST.out.by_ I
           generalize (grow out f i).getD I 0 = Y at *
           have hsl := lt_heap hbx
           have d0 := cell_at (i := 0) hbx
           have d1 := cell_at (i := 1) hbx
           have df := free_at (i := 1) hbx
           have HGS : Hid (G ≠ s) := Pal.hid (fun e => HST.out.os (by rw [← e]; rfl))
           have cd : Chg [] wr wr.drew := (Chg.refl _ wr).drew
           have HSS : Hid (∀ wx,Chg [G] wr wx → s < wx.heap.size ∧ wx.cell? ⟨s,1,none⟩ = some (.slice (some ⟨G,0,none⟩) L ci) ∧ wx.frozen? ⟨s,1,none⟩ = false) := Pal.hid fun wx hx => by
            have := hx.heap hbx (by have := HGS.out; simp; omega)
            exact ⟨lt_heap this,cell_at (i := 1) this,free_at (i := 1) this⟩
           have HEL := Pal.hid hel
           clear hL hI hel hbx hlg
           go_wp2_with fail
           refine Pal.region_last (S := fun wx => s < wx.heap.size ∧ wx.cell? ⟨s,1,none⟩ = some (.slice (some ⟨G,0,none⟩) L ci) ∧ wx.frozen? ⟨s,1,none⟩ = false) 22 (by kernel_rfl) rfl (by decide) rfl rfl (by kernel_rfl) (by kernel_rfl) (HSS.out _ (cd.mono (by simp))) (fun hHeld => ?_)
           simp only [List.take_succ_cons,List.take_zero,List.cons_append,List.nil_append,Pal.nop]
           have hbw : Own wr.drew 5 1 (.slice (some ⟨G,0,none⟩) L ci) L ((grow out f i).map b8) := cd.owns hbo (by simp)
           generalize wr.drew = W0 at cd hHeld hbw ⊢
           have hel := cd.cell HEL.out (by simp)
           refine Pal.hT 0 ?_ rfl (by kernel_rfl) (fun _ _ _ h=>h) (.inl ⟨by rfl,?_⟩) hHeld ?_
           rotate_left
           ·(intro w hSw; (try dsimp only at hSw); go_simp)
            first | done | with_reducible rfl
           (try simp only [Act.put,Pal.sA,Pal.sZ,Pal.sS])
           refine Pal.hT 1 ?_ rfl (by kernel_rfl) (fun _ _ _ h=>h) (.inl ⟨by rfl,?_⟩) hHeld ?_
           rotate_left
           ·(intro w hSw; (try dsimp only at hSw); go_simp)
            first | done | with_reducible rfl
           (try simp only [Act.put,Pal.sA,Pal.sZ,Pal.sS])
           refine Pal.hT 2 ?_ rfl (by kernel_rfl) (fun _ _ _ h=>h) (.inl ⟨by rfl,?_⟩) hHeld ?_
           rotate_left
           ·(intro w hSw; (try dsimp only at hSw); go_simp)
            first | done | with_reducible rfl
           (try simp only [Act.put,Pal.sA,Pal.sZ,Pal.sS])
           refine Pal.hT 3 ?_ rfl (by kernel_rfl) (fun _ _ _ h=>h) (.inl ⟨by rfl,?_⟩) hHeld ?_
           rotate_left
           ·(intro w hSw; (try dsimp only at hSw); go_simp)
            first | done | with_reducible rfl
           (try simp only [Act.put,Pal.sA,Pal.sZ,Pal.sS])
           refine Pal.hT 4 ?_ rfl (by kernel_rfl) (fun _ _ _ h=>h) (.inl ⟨by rfl,?_⟩) hHeld ?_
           rotate_left
           ·(intro w hSw; (try dsimp only at hSw); go_simp)
            first | done | with_reducible rfl
           (try simp only [Act.put,Pal.sA,Pal.sZ,Pal.sS])
           refine Pal.hT 5 ?_ rfl (by kernel_rfl) (fun _ _ _ h=>h) (.inl ⟨by rfl,?_⟩) hHeld ?_
           rotate_left
           ·(intro w hSw; (try dsimp only at hSw); go_simp)
            first | done | with_reducible rfl
           (try simp only [Act.put,Pal.sA,Pal.sZ,Pal.sS])
           refine Pal.hT 6 ?_ rfl (by kernel_rfl) (fun _ _ _ h=>h) (.inl ⟨by rfl,?_⟩) hHeld ?_
           rotate_left
           ·(intro w hSw; (try dsimp only at hSw); go_simp)
            first | done | with_reducible rfl
           (try simp only [Act.put,Pal.sA,Pal.sZ,Pal.sS])
           refine Pal.hT 7 ?_ rfl (by kernel_rfl) (fun _ _ _ h=>h) (.inl ⟨by rfl,?_⟩) hHeld ?_
           rotate_left
           ·(intro w hSw; (try dsimp only at hSw); go_simp)
            first | done | with_reducible rfl
           (try simp only [Act.put,Pal.sA,Pal.sZ,Pal.sS])
           refine Pal.hT 8 ?_ rfl (by kernel_rfl) (fun _ _ _ h=>h) (.inl ⟨by rfl,?_⟩) hHeld ?_
           rotate_left
           ·(intro w hSw; (try dsimp only at hSw); go_simp)
            first | done | with_reducible rfl
           (try simp only [Act.put,Pal.sA,Pal.sZ,Pal.sS])
           refine Pal.hT 9 ?_ rfl (by kernel_rfl) (fun _ _ _ h=>h) (.inl ⟨by rfl,?_⟩) hHeld ?_
           rotate_left
           ·(intro w hSw; (try dsimp only at hSw); go_simp)
            first | done | with_reducible rfl
           (try simp only [Act.put,Pal.sA,Pal.sZ,Pal.sS])
           refine Pal.hT 10 ?_ rfl (by kernel_rfl) (fun _ _ _ h=>h) (.inl ⟨by rfl,?_⟩) hHeld ?_
           rotate_left
           ·(intro w hSw; (try dsimp only at hSw); go_simp)
            first | done | with_reducible rfl
           (try simp only [Act.put,Pal.sA,Pal.sZ,Pal.sS])
           refine Pal.hT 11 ?_ rfl (by kernel_rfl) (fun _ _ _ h=>h) (.inl ⟨by rfl,?_⟩) hHeld ?_
           rotate_left
           ·(intro w hSw; (try dsimp only at hSw); go_simp)
            first | done | with_reducible rfl
           (try simp only [Act.put,Pal.sA,Pal.sZ,Pal.sS])
           refine Pal.hT 12 ?_ rfl (by kernel_rfl) (fun _ _ _ h=>h) (.inl ⟨by rfl,?_⟩) hHeld ?_
           rotate_left
           ·(intro w hSw; (try dsimp only at hSw); go_simp)
            first | done | with_reducible rfl
           (try simp only [Act.put,Pal.sA,Pal.sZ,Pal.sS])
           refine Pal.hT 13 ?_ rfl (by kernel_rfl) (fun _ _ _ h=>h) (.inl ⟨by rfl,?_⟩) hHeld ?_
           rotate_left
           ·(intro w hSw; (try dsimp only at hSw); go_simp)
            first | done | with_reducible rfl
           (try simp only [Act.put,Pal.sA,Pal.sZ,Pal.sS])
           refine Pal.hT 14 ?_ rfl (by kernel_rfl) (fun _ _ _ h=>h) (.inl ⟨by rfl,?_⟩) hHeld ?_
           rotate_left
           ·(intro w hSw; (try dsimp only at hSw); go_simp)
            first | done | with_reducible rfl
           (try simp only [Act.put,Pal.sA,Pal.sZ,Pal.sS])
           refine Pal.hT 15 ?_ rfl (by kernel_rfl) (fun _ _ _ h=>h) (.inl ⟨by rfl,?_⟩) hHeld ?_
           rotate_left
           ·(intro w hSw; (try dsimp only at hSw); go_simp)
            first | done | with_reducible rfl
           (try simp only [Act.put,Pal.sA,Pal.sZ,Pal.sS])
           refine Pal.hT 16 ?_ rfl (by kernel_rfl) (fun _ _ _ h=>h) (.inl ⟨by rfl,?_⟩) hHeld ?_
           rotate_left
           ·(intro w hSw; (try dsimp only at hSw); go_simp)
            first | done | with_reducible rfl
           (try simp only [Act.put,Pal.sA,Pal.sZ,Pal.sS])
           refine Pal.held_one (i := 17) rfl (by kernel_rfl) (by rfl) (fun K hK => ?_)
           go_simp
           refine hK.out _ _ hHeld ?_
           clear hK K
           refine Pal.held_one (i := 18) rfl (by kernel_rfl) (by rfl) (fun K hK => ?_)
           go_simp
           have hrd := own_byte (w := W0) (x := Y)
           have ca : Chg [] wr (W0.alloc (.cells #[b8 Y] 5)) := cd.alloc _
           generalize W0.alloc (.cells #[b8 Y] 5) = Wa at hrd ca ⊢
           have st1 := HST.out.still ca
           have hbw2 := st1.own
           rw [length_grow,HLL.out.symm] at hbw2
           have hHeld := HSS.out _ (ca.mono (by simp))
           refine hK.out _ _ hHeld ?_
           clear hK K
           refine Pal.held_one (i := 19) rfl (by kernel_rfl) (by rfl) (fun K hK => ?_)
           refine wp_app sl_u8 (.tmp 99) (.tmp 113) rfl rfl rfl hbw2 hrd (oneCell_b8 _) (by omega) (by unfold maxLen; omega) ?_
           intro v6 w7 own6 chg6 hat6
           obtain ⟨ao6,cp6,rfl⟩ := own_slice own6
           (try simp only [Act.put,Pal.sA,Pal.sZ,Pal.sS])
           have chg6 : Chg [G] Wa w7 := chg6
           have hHeld := HSS.out _ ((ca.mono (T := [G]) (by simp)).trans chg6 (fun k hk => .inl hk))
           refine hK.out _ _ hHeld ?_
           clear hK K
           refine Pal.hT 20 ?_ rfl (by kernel_rfl) (fun _ _ _ h=>h) (.inl ⟨by rfl,?_⟩) hHeld ?_
           rotate_left
           ·(intro w hSw; (try dsimp only at hSw); go_simp)
            first | done | with_reducible rfl
           (try simp only [Act.put,Pal.sA,Pal.sZ,Pal.sS])
           refine Pal.hT 21 ?_ rfl (by kernel_rfl) (fun _ _ _ h=>h) (.inl ⟨by rfl,?_⟩) hHeld ?_
           rotate_left
           ·(intro w hSw; (try dsimp only at hSw); go_simp)
            first | done | with_reducible rfl
           (try simp only [Act.put,Pal.sA,Pal.sZ,Pal.sS])
           refine Pal.hT 22 ?_ rfl (by kernel_rfl) (fun _ _ _ h=>h) (.inl ⟨by rfl,?_⟩) hHeld ?_
           rotate_left
           ·(intro w hSw; (try dsimp only at hSw); go_simp)
            first | done | with_reducible rfl
           (try simp only [Act.put,Pal.sA,Pal.sZ,Pal.sS])
           refine wpAnyH_done (by kernel_rfl) ?_ _
           show Oper.wp _ _ _ _ _ _
           obtain ⟨k0,k1,k2⟩ := hHeld
           have hlen7 : (grow out f (i + 1)).length = L + 1 := by rw [length_grow,HLL.out]; omega
           have own7 : Own w7 5 1 (.slice ao6 (L + 1) cp6) (grow out f (i + 1)).length ((grow out f (i + 1)).map b8) := by
            rw [hlen7,HSU.out,List.map_append]
            exact own6
           have hfin := st1.told (ov' := .slice ao6 (L + 1) cp6) (out' := grow out f (i + 1)) chg6 own7 (by
            rw [HSU.out]
            intro x hx
            rcases List.mem_append.1 hx with h1 | h1
            ·exact HST.out.by_ x h1
            ·obtain rfl : x = Y := by simpa using h1
             exact hYb) (by rw [hlen7]; exact hLR) (fun k hk => by
            rcases hat6 with h1 | h1
            ·exact .inl (h1 ▸ hk)
            ·rw [h1] at hk; cases hk; exact .inr (Nat.le_refl _))
           have hsz : w.heap.size ≤ Wa.heap.size := Nat.le_trans HCH.out.size ca.size
           have hatF : ∀ k,(Value.slice ao6 (L + 1) cp6).ownBlock = some k → (Value.slice oo out.length oc).ownBlock = some k ∨ w.heap.size ≤ k := fun k hk => by
            rcases hat6 with h1 | h1
            ·exact HAT.out k (h1 ▸ hk)
            ·rw [h1] at hk; cases hk; exact .inr hsz
           have HFIN := Pal.hid hfin.1
           have HATF := Pal.hid hatF
           have HCHF := Pal.hid (sfp_trans HCH.out HAT.out ((ca.mono (S := []) (T := sfp s p (.slice (some ⟨G,0,none⟩) L ci)) (by simp)).trans (toO hfin.2) (fun k hk => .inl hk)))
           clear own6 chg6 hat6 own7 hfin hatF st1 hbw2 hrd ca cd hbw hel hlen7 hbo hsz hYb d0 d1 df
           go_simp
           go_wp2_with fail
           rw [show L + 1 = out.length + (i + 1) by have := HLL.out; omega] at HFIN HATF
           refine ⟨⟨i + 1,ao6,cp6,rfl,Pal.hid (by omega),?_,?_,?_⟩,by simp [intOf]; omega⟩
           ·rw [show out.length + (i + 1) = L + 1 by have := HLL.out; omega] at *
            exact HFIN
           ·exact HATF
           ·exact HCHF
          ·have hlti : ¬ (i : Int) < n := by omega
           obtain rfl : i = n := by omega
           go_wp2_with fail
           go_end0
           rw [HRR.out]
           exact ⟨rfl,_,HST.out,HAT.out,HCH.out⟩
      ·have HRR := Pal.hid (HRz.out.trans (seq_bad (takeD_no h3)))
       refine (take_far p g bs (a + W1 + ny) W2 w4 HR4.out (by omega) (by omega)).mono ?_
       rintro e w5 ⟨rfl,nq,rfl⟩
       go_wp2_with fail
       refine (must64_bad _ 120 _ (by decide)).mono ?_
       rintro e w' ⟨rfl,rfl⟩
       go_wp2_with fail
       refine ⟨rfl,?_⟩
       rw [HRR.out]
       exact ⟨rfl,toS (HC4.out.drewN _)⟩
    ·have HRR := Pal.hid (HRn.out.trans (seq_bad (symD_no HTT.out hE)))
     refine (mustIn_bad _ ey _ hE).mono ?_
     rintro e w' ⟨rfl,rfl⟩
     go_wp2_with fail
     refine ⟨rfl,?_⟩
     rw [HRR.out]
     exact ⟨rfl,toS HC3.out⟩
 ·have HRR := Pal.hid (HR.out.trans (seq_bad (takeD_no h1)))
  refine (take_far p g bs a W1 w1 HR1.out (by omega) (by omega)).mono ?_
  rintro e w2 ⟨rfl,nq,rfl⟩
  go_wp2_with fail
  refine (must64_bad _ 120 _ (by decide)).mono ?_
  rintro e w' ⟨rfl,rfl⟩
  go_wp2_with fail
  refine ⟨rfl,?_⟩
  rw [HRR.out]
  exact ⟨rfl,toS (HC1.out.drewN _)⟩
end Go.Proofs.YtiijhaajaglabaaGreat
set_option linter.unusedVariables false
namespace Go.Proofs.YtiijhaajaglabaaGreat
open Go.RowKit Pal Pal.Cd Pal.Df
theorem Strm.pcell {w : World} {s p : Nat} {g : Option Nat} {ov : Value} {bs : List Nat} {a : Nat} {out : List Nat} {most : Nat} (h : Strm w s p g ov bs a out most) : w.cell? ⟨p,1,none⟩ = some (z64 a) := by
 obtain ⟨v,hb,_⟩ := h.rd
 exact (cell_at (i := 1) hb).trans rfl
theorem packed_step {l d : List Int} {f : Nat} {bs out : List Nat} {m a : Nat} {x n : Nat} (ht : tkE l (((bitsOfBytes bs).drop a).take 15) = (x,n,0)) :
  packedD l d (f + 1) bs m ⟨a,out⟩ = (if x = 256 then ret () else if 285 < x then bad 152 else if 256 < x then seq (matchD d x) fun _ => packedD l d f else seq (byteD x) fun _ => packedD l d f) bs m ⟨a + n,out⟩ := by
 show seq (symD l) _ bs m ⟨a,out⟩ = _
 rw [seq_of (symD_ok ht rfl)]
theorem tk_pos {l : List Int} {b : List Nat} {x n : Nat} (h : tkE l b = (x,n,0)) : 1 ≤ n := by
 obtain ⟨s,n2,h1,h2⟩ := tkE_some (l := l) (b := b) (by rw [h])
 have := hitUp_first _ _ _ h1
 rw [h] at h2
 cases h2
 exact this.1
theorem tk_lt {l : List Int} {b : List Nat} {x n : Nat} (h : tkE l b = (x,n,0)) : x < l.length := by
 obtain ⟨s,n2,h1,h2⟩ := tkE_some (l := l) (b := b) (by rw [h])
 have h3 := hitUp_first _ _ _ h1
 rw [h] at h2
 cases h2
 exact List.mem_range.1 (List.mem_of_find?_eq_some h3.2.2.1)
set_option maxRecDepth 100000 in
set_option maxHeartbeats 16000000 in
theorem dpacked_any {w : World} {s p c1 c2 : Nat} {g : Option Nat} {ov lv1 sv1 lv2 sv2 : Value} {bs : List Nat} {a : Nat} {out : List Nat} {most : Nat} {l d : List Int} (F : Nat) (hF : 8 * bs.length - a < F) (h : Strm w s p g ov bs a out most)
  (hc1 : Cod w c1 lv1 sv1 l) (hr1 : ∀ y ∈ l,0 ≤ y ∧ y ≤ 15) (hl1 : l.length ≤ 320) (ha1 : Aside s p ov c1 lv1 sv1) (hc2 : Cod w c2 lv2 sv2 d) (hr2 : ∀ y ∈ d,0 ≤ y ∧ y ≤ 15) (hl2 : d.length ≤ 320) (ha2 : Aside s p ov c2 lv2 sv2) :
  Calls Tryz.prog 97 #[.pointer (some ⟨s,0,none⟩),.pointer (some ⟨c1,0,none⟩),.pointer (some ⟨c2,0,none⟩)] w fun e w' => After unitV w s p g ov bs most e w' (packedD l d F bs most ⟨a,out⟩) := by
 have H := Pal.hid h
 have HCA := Pal.hid hc1
 have HCB := Pal.hid hc2
 have HAA := Pal.hid ha1
 have HAB := Pal.hid ha2
 have HRA := Pal.hid hr1
 have HRB := Pal.hid hr2
 have hmm := h.hm
 obtain ⟨r,hrr⟩ : ∃ r,r = packedD l d F bs most ⟨a,out⟩ := ⟨_,rfl⟩
 rw [← hrr]
 have HR := Pal.hid hrr
 have HF := Pal.hid hF
 clear hrr h hc1 hc2 ha1 ha2 hr1 hr2 hF
 go_enter Tryz.func97,Tryz.ntmps97
 go_wp2_with fail
 go_loopw [] (fun wr => ∃ (f a' : Nat) (out' : List Nat) (ov' : Value),Hid (r = packedD l d f bs most ⟨a',out'⟩) ∧ Hid (8 * bs.length - a' < f) ∧ Hid (Strm wr s p g ov' bs a' out' most) ∧ Hid (∀ k,ov'.ownBlock = some k → ov.ownBlock = some k ∨ w.heap.size ≤ k) ∧ Hid (Chg (sfp s p ov) w wr)) (fun wr => 8 * bs.length + 1 - (intOf ((wr.cell? ⟨p,1,none⟩).getD undef)).toNat)
 case atStart => exact ⟨F,a,out,ov,HR,HF,H,Pal.hid (fun k hk => .inl hk),Pal.hid (Chg.refl _ _)⟩
 case round =>
  obtain ⟨f0,a',out',ov',HRr,HFf,HST,HAT,HCH⟩ := hrel
  obtain ⟨f,rfl⟩ : ∃ f,f0 = f + 1 := ⟨f0 - 1,by have := HFf.out; omega⟩
  have hmeas : 8 * bs.length + 1 - (intOf ((wr.cell? ⟨p,1,none⟩).getD undef)).toNat = 8 * bs.length + 1 - a' := by
   rw [HST.out.pcell]
   simp [intOf]
  have HME := Pal.hid hmeas
  clear hmeas
  obtain ⟨oo,oc,rfl⟩ := own_slice HST.out.own
  have hcA := HAA.out.cod HCA.out HCH.out
  have hcB := HAB.out.cod HCB.out HCH.out
  have hsA : Aside s p (.slice oo out'.length oc) c1 lv1 sv1 := HAA.out.next HCA.out HAT.out
  have hsB : Aside s p (.slice oo out'.length oc) c2 lv2 sv2 := HAB.out.next HCB.out HAT.out
  have HK : Hid (∀ wx,Chg [p] wr wx → s < wx.heap.size ∧ wx.cell? ⟨s,0,none⟩ = some (.pointer (some ⟨p,0,none⟩)) ∧ wx.cell? ⟨s,1,none⟩ = some (.slice oo out'.length oc) ∧ wx.cell? ⟨s,2,none⟩ = some (z64 most) ∧ wx.frozen? ⟨s,1,none⟩ = false) := Pal.hid fun wx hc => strm_cells HST.out hc
  have hTA := take_any hcA HRA.out hl1 HST.out.rd (fun e => hsA.1 (by simp [e])) (fun e => hsA.2.2 p e (by simp))
  have HCB2 : Hid (∀ wx,Chg [p] wr wx → Cod wx c2 lv2 sv2 d) := Pal.hid fun wx hc => hcB.keep hc (fun e => hsB.1 (by simp at e; simp [e])) (fun k hk e => hsB.2.1 k hk (by simp at e; simp [e])) (fun k hk e => hsB.2.2 k hk (by simp at e; simp [e]))
  have HSB := Pal.hid hsB
  obtain ⟨t,ht⟩ : ∃ t,tkE l (((bitsOfBytes bs).drop a').take 15) = t := ⟨_,rfl⟩
  rw [ht] at hTA
  obtain ⟨x,nx,ex⟩ := t
  simp only at hTA
  have HTA := Pal.hid hTA
  have HTT := Pal.hid ht
  clear hTA ht hcA hcB hsA hsB
  obtain ⟨q0,q1,q2,q3,q4⟩ := HK.out wr (Chg.refl _ _)
  go_wp2_with fail
  refine HTA.out.mono ?_
  rintro e w3 ⟨rfl,r3,c3⟩
  have HR3 := Pal.hid r3
  have HC3 := Pal.hid c3
  have HZ3 : Hid (Chg (sfp s p ov) w w3) := Pal.hid (HCH.out.trans c3 (by simp))
  clear q0 q1 q2 q3 q4 r3 c3 HTA
  obtain ⟨q0,q1,q2,q3,q4⟩ := HK.out w3 HC3.out
  go_wp2_with fail
  by_cases hE : ex = 0
  ·subst hE
   have HRs := Pal.hid (HRr.out.trans (packed_step HTT.out))
   have hn1 := tk_pos HTT.out
   have hxl := tk_lt HTT.out
   refine (mustIn_ok _ _).mono ?_
   rintro e w' ⟨rfl,hw'⟩
   rw [hw']
   clear hw'
   have HS3 := Pal.hid (HST.out.read HR3.out HC3.out)
   have ha3 := HS3.out.le8.1
   by_cases h256 : x = 256
   ·subst h256
    have HRR : Hid (r = .ok ((),⟨a' + nx,out'⟩)) := Pal.hid (by rw [HRs.out,if_pos rfl]; rfl)
    go_wp2_with fail
    first | go_end0 | refine bodyPost_ret (results_none rfl _ _ _) rfl ?_
    rw [HRR.out]
    exact ⟨rfl,_,HS3.out,HAT.out,HZ3.out⟩
   ·have h256b : ((x : Int) == 256) = false := by simp; omega
    by_cases h285 : 285 < x
    ·have HRR : Hid (r = .error 152) := Pal.hid (by rw [HRs.out,if_neg h256,if_pos h285]; rfl)
     have h285d : decide ((285 : Int) < x) = true := decide_eq_true (by omega)
     have h285e : decide (285 < x) = true := decide_eq_true h285
     go_wp2_with fail
     refine ⟨rfl,?_⟩
     rw [HRR.out]
     exact ⟨rfl,HZ3.out⟩
    ·have h285i : ¬ (285 : Int) < x := by omega
     have h285d : decide ((285 : Int) < x) = false := decide_eq_false h285i
     have h285e : decide (285 < x) = false := decide_eq_false h285
     by_cases hm : 256 < x
     ·have hmd : decide ((256 : Int) < x) = true := decide_eq_true (by omega)
      have hme : decide (256 < x) = true := decide_eq_true hm
      have hmi : (256 : Int) < x := by omega
      have HRm : Hid (r = (seq (matchD d x) fun _ => packedD l d f) bs most ⟨a' + nx,out'⟩) := Pal.hid (by rw [HRs.out,if_neg h256,if_neg h285,if_pos hm])
      have HMC := Pal.hid (dmatch_any x hm (by omega) HS3.out (HCB2.out w3 HC3.out) HRB.out hl2 HSB.out)
      cases hmr : matchD d x bs most ⟨a' + nx,out'⟩ with
      | error E =>
       have HRR : Hid (r = .error E) := Pal.hid (by rw [HRm.out]; exact seq_bad hmr)
       rw [hmr] at HMC
       clear hmr
       go_wp2_with fail
       refine HMC.out.mono ?_
       rintro e w4 ⟨rfl,c4⟩
       go_wp2_with fail
       refine ⟨rfl,?_⟩
       rw [HRR.out]
       exact ⟨rfl,sfp_trans HZ3.out HAT.out c4⟩
      | ok xs =>
       obtain ⟨u,st⟩ := xs
       have HRR : Hid (r = packedD l d f bs most st) := Pal.hid (by rw [HRm.out]; exact seq_of hmr)
       have hfw : a' + nx ≤ st.a := (Cuts.matched d x _ _ _ _ _ hmr).1
       rw [hmr] at HMC
       clear hmr
       go_wp2_with fail
       refine HMC.out.mono ?_
       rintro e w4 ⟨rfl,ov4,st4,at4,c4⟩
       have HST4 := Pal.hid st4
       have HAT4 := Pal.hid (at_trans HZ3.out.size HAT.out at4)
       have HCH4 := Pal.hid (sfp_trans HZ3.out HAT.out c4)
       have hle4 := st4.le8.1
       have hpc := st4.pcell
       have HPC := Pal.hid hpc
       clear st4 at4 c4 hpc
       go_wp2_with fail
       refine ⟨⟨f,st.a,st.out,ov4,HRR,Pal.hid (by have := HFf.out; omega),HST4,HAT4,HCH4⟩,?_⟩
       rw [HME.out,HPC.out]
       simp [intOf]
       omega
     ·have hmi : ¬ (256 : Int) < x := by omega
      have hmd : decide ((256 : Int) < x) = false := decide_eq_false hmi
      have hme : decide (256 < x) = false := decide_eq_false hm
      have hxb : x < 256 := by omega
      have HRb : Hid (r = (seq (byteD x) fun _ => packedD l d f) bs most ⟨a' + nx,out'⟩) := Pal.hid (by rw [HRs.out,if_neg h256,if_neg h285,if_neg hm])
      have hlim := HST.out.lim
      by_cases hroom : most ≤ out'.length
      ·have HRR : Hid (r = .error 141) := Pal.hid (by rw [HRb.out]; exact seq_bad (if_pos (by show most - out'.length < 1; omega)))
       have hrd : decide ((most : Int) ≤ out'.length) = true := decide_eq_true (by omega)
       have hre : decide (most ≤ out'.length) = true := decide_eq_true hroom
       go_wp2_with fail
       go_quiet (fail)
       go_wp2_with fail
       refine ⟨rfl,?_⟩
       rw [HRR.out]
       exact ⟨rfl,HZ3.out.drewN _⟩
      ·have HRR : Hid (r = packedD l d f bs most ⟨a' + nx,out' ++ [x]⟩) := Pal.hid (by rw [HRb.out]; exact seq_of (if_neg (by show ¬ most - out'.length < 1; omega)))
       have hri : ¬ (most : Int) ≤ out'.length := by omega
       have hrd : decide ((most : Int) ≤ out'.length) = false := decide_eq_false hri
       have hre : decide (most ≤ out'.length) = false := decide_eq_false hroom
       have hwx : IntKind.u8.wrap (x : Int) = x := by rw [wrap_u8,Nat.mod_eq_of_lt hxb]
       go_wp2_with fail
       go_quiet (fail)
       have HS5 := Pal.hid (HS3.out.still ((Chg.refl [] w3).drewN nq))
       have HZ5 : Hid (Chg (sfp s p ov) w (w3.drewN nq)) := Pal.hid (HZ3.out.drewN nq)
       obtain ⟨w5,hw5⟩ : ∃ w5,w5 = w3.drewN nq := ⟨_,rfl⟩
       rw [← hw5] at HS5 HZ5 ⊢
       clear hw5 q0 q1 q2 q3 q4
       have hb5 := HS5.out.box
       have q0 := lt_heap hb5
       have q1 := cell_at (i := 1) hb5
       have q2 := free_at (i := 1) hb5
       have HAL : Hid (Own (w5.alloc (.cells #[b8 x] 5)) 5 1 (.slice oo out'.length oc) out'.length (out'.map b8)) := Pal.hid (HS5.out.still ((Chg.refl [] w5).alloc _)).own
       have HRB2 := Pal.hid (own_byte (w := w5) (x := x))
       clear hb5
       have key : ∀ (v6 : Value) (w7 : World),Own w7 5 1 v6 (out'.length + 1) (List.map b8 out' ++ List.map b8 [x]) → Chg (Value.slice oo out'.length oc).ownBlock.toList (w5.alloc (.cells #[.int .u8 x] 5)) w7 → s < w7.heap.size ∧ w7.frozen? ⟨s,1,none⟩ = false ∧ w7.cell? ⟨s,1,none⟩ = some (.slice oo out'.length oc) := by
        intro v6 w7 own6 chg6
        obtain ⟨ao6,cp6,rfl⟩ := own_slice own6
        have hb7 := chg6.heap (HS5.out.still ((Chg.refl [] w5).alloc (.cells #[b8 x] 5))).box (not_own HS5.out.os)
        have k0 := lt_heap hb7
        have k2 := free_at (i := 1) hb7
        exact ⟨k0,k2,cell_at (i := 1) hb7⟩
       have KEY := Pal.hid key
       clear key
       go_wp2_with (at_builtin; refine wpList_app (v := .slice oo out'.length oc) sl_u8 rfl (.tmp 46) (.tmp 49) rfl rfl rfl HAL.out HRB2.out (oneCell_b8 _) (by omega) (by unfold maxLen; omega) ?_; intro v6 w7 own6 chg6 hat6; obtain ⟨ao6,cp6,rfl⟩ := own_slice own6; obtain ⟨k0,k2,k3⟩ := KEY.out _ w7 own6 chg6; have HOW6 := Pal.hid own6; have HCG6 := Pal.hid chg6; have HAT6 := Pal.hid hat6; clear own6 chg6 hat6)
       have own6 := HOW6.out
       have chg6 := HCG6.out
       have hat6 := HAT6.out
       have st1 := HS5.out.still ((Chg.refl [] w5).alloc (.cells #[b8 x] 5))
       have ca : Chg [] w5 (w5.alloc (.cells #[b8 x] 5)) := (Chg.refl [] w5).alloc _
       have own7 : Own w7 5 1 (.slice ao6 (out'.length + 1) cp6) (out' ++ [x]).length ((out' ++ [x]).map b8) := by
        rw [List.length_append,List.map_append]
        exact own6
       have hfin := st1.told (ov' := .slice ao6 (out'.length + 1) cp6) (out' := out' ++ [x]) chg6 own7 (by
        intro y hy
        rcases List.mem_append.1 hy with h1 | h1
        ·exact HS5.out.by_ y h1
        ·obtain rfl : y = x := by simpa using h1
         exact hxb) (by simp; omega) (fun k hk => by
        rcases hat6 with h1 | h1
        ·exact .inl (h1 ▸ hk)
        ·rw [h1] at hk; cases hk; exact .inr (Nat.le_refl _))
       have hsz : w.heap.size ≤ (w5.alloc (.cells #[b8 x] 5)).heap.size := Nat.le_trans HZ5.out.size ca.size
       have hatF : ∀ k,(Value.slice ao6 (out'.length + 1) cp6).ownBlock = some k → ov.ownBlock = some k ∨ w.heap.size ≤ k := fun k hk => by
        rcases hat6 with h1 | h1
        ·exact HAT.out k (h1 ▸ hk)
        ·rw [h1] at hk; cases hk; exact .inr hsz
       have HFIN := Pal.hid hfin.1
       have HATF := Pal.hid hatF
       have HPC := Pal.hid hfin.1.pcell
       have HCHF := Pal.hid (sfp_trans HZ5.out HAT.out ((ca.mono (S := []) (T := sfp s p (.slice oo out'.length oc)) (by simp)).trans (toO hfin.2) (fun k hk => .inl hk)))
       clear own6 chg6 hat6 own7 hfin hatF st1 ca hsz
       refine ⟨⟨f,a' + nx,out' ++ [x],_,HRR,Pal.hid (by have := HFf.out; omega),HFIN,HATF,HCHF⟩,?_⟩
       rw [HME.out,HPC.out]
       simp [intOf]
       omega
  ·have HRR : Hid (r = .error ex) := Pal.hid (HRr.out.trans (seq_bad (symD_no HTT.out hE)))
   refine (mustIn_bad _ ex _ hE).mono ?_
   rintro e w' ⟨rfl,rfl⟩
   go_wp2_with fail
   refine ⟨rfl,?_⟩
   rw [HRR.out]
   exact ⟨rfl,HZ3.out⟩
end Go.Proofs.YtiijhaajaglabaaGreat
