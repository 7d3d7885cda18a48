/- Lengths, read by the code of lengths. The order of the lengths of the code of lengths. -/
import Derived.Test.YtiijhaajaglabaaGreatBk22
import Derived.Test.YtiijhaajaglabaaGreatBk23
import Derived.Great.BuildSlice
set_option linter.unusedVariables false
set_option linter.unusedSimpArgs false
set_option linter.unusedVariables false
namespace Go.Proofs.YtiijhaajaglabaaGreat
open Go.RowKit Pal Pal.Cd Pal.Df
theorem new_not {w : World} {v : Value} (hn : New w v) {k : Nat} (hk : k < w.heap.size) : k ∉ v.ownBlock.toList := fun hm => by
 cases e : v.ownBlock with
 | none => rw [e] at hm; simp at hm
 | some q =>
  rw [e] at hm
  obtain rfl : k = q := by simpa using hm
  have := hn k e
  omega
theorem Strm.later {w w1 w2 : World} {s p : Nat} {g : Option Nat} {ov : Value} {bs : List Nat} {a a1 : Nat} {out : List Nat} {most : Nat} {v : Value} (h0 : Strm w s p g ov bs a out most) (h : Strm w1 s p g ov bs a1 out most) (hn : New w v) (hc : Chg v.ownBlock.toList w1 w2) : Strm w2 s p g ov bs a1 out most :=
 h.keep hc (new_not hn (lt_heap h0.box)) (fun k hk => new_not hn (h0.rd.lt k hk)) (fun k hk => new_not hn (own_lt h0.own hk))
def AfterL (w : World) (s p : Nat) (g : Option Nat) (ov : Value) (bs : List Nat) (out : List Nat) (most : Nat) (e : Ending) (w' : World) : Except Int (List Nat × St) → Prop
 | .ok (l,st) => ∃ v,e = .returned v ∧ Strm w' s p g ov bs st.a out most ∧ st.out = out ∧ Own w' 3 1 v l.length (zL l) ∧ New w v ∧ Chg [p] w w'
 | .error E => e = .panicked (errP E) ∧ Chg [p] w w'
theorem row_step {c : List Int} {n f : Nat} {row : List Nat} {bs out : List Nat} {m a : Nat} {x k : Nat} (hr : ¬ row.length = n) (ht : tkE c (((bitsOfBytes bs).drop a).take 15) = (x,k,0)) :
  rowD c n (f + 1) row bs m ⟨a,out⟩ = (if x = 16 then seq (takeD 2) fun t => seq (whenD (row = []) 151) fun _ => seq (whenD (n - row.length < 3 + t) 151) fun _ => rowD c n f (row ++ List.replicate (3 + t) (row.getLastD 0))
   else if x = 17 then seq (takeD 3) fun t => seq (whenD (n - row.length < 3 + t) 151) fun _ => rowD c n f (row ++ List.replicate (3 + t) 0)
   else if x = 18 then seq (takeD 7) fun t => seq (whenD (n - row.length < 11 + t) 151) fun _ => rowD c n f (row ++ List.replicate (11 + t) 0)
   else rowD c n f (row ++ [x])) bs m ⟨a + k,out⟩ := by
 rw [rowD,if_neg hr,seq_of (symD_ok ht rfl)]
theorem row_bad {c : List Int} {n f : Nat} {row : List Nat} {bs out : List Nat} {m a : Nat} {x k : Nat} {e : Int} (hr : ¬ row.length = n) (ht : tkE c (((bitsOfBytes bs).drop a).take 15) = (x,k,e)) (he : e ≠ 0) :
  rowD c n (f + 1) row bs m ⟨a,out⟩ = .error e := by
 rw [rowD,if_neg hr,seq_bad (symD_no ht he)]
set_option maxRecDepth 100000 in
set_option maxHeartbeats 16000000 in
theorem row_any {w : World} {s p cc : Nat} {g : Option Nat} {ov lv sv : Value} {bs : List Nat} {a : Nat} {out : List Nat} {most : Nat} {c : List Int} (n F : Nat) (hn : n ≤ 320) (hF : 8 * bs.length - a < F) (h : Strm w s p g ov bs a out most)
  (hc : Cod w cc lv sv c) (hr : ∀ y ∈ c,0 ≤ y ∧ y ≤ 15) (hl : c.length ≤ 320) (ha : Aside s p ov cc lv sv) :
  Calls Tryz.prog 99 #[.pointer (some ⟨s,0,none⟩),.pointer (some ⟨cc,0,none⟩),z64 n] w fun e w' => AfterL w s p g ov bs out most e w' (rowD c n F [] bs most ⟨a,out⟩) := by
 have H := Pal.hid h
 have HCA := Pal.hid hc
 have HAA := Pal.hid ha
 have HRA := Pal.hid hr
 have HPN : Hid (∀ v : Value,New w v → ∀ k,v.ownBlock = some k → k ∉ [p]) := Pal.hid (fun v hv k hk => by
  have h1 := hv k hk
  have h2 := h.rd.lt p (mem_wfp.2 (.inl rfl))
  simp
  omega)
 obtain ⟨r,hrr⟩ : ∃ r,r = rowD c n F [] bs most ⟨a,out⟩ := ⟨_,rfl⟩
 rw [← hrr]
 have HR := Pal.hid hrr
 have HF := Pal.hid hF
 have hlx : List.length ([] : List Nat) ≤ n := Nat.zero_le _
 have HLX := Pal.hid hlx
 have HNI := Pal.hid (own_nil w 3 1)
 have HNN := Pal.hid (New.nil w)
 clear hrr h hc ha hr hF hlx
 go_enter Tryz.func99,Tryz.ntmps99
 go_wp2_with fail
 go_step3
 go_wp2_with fail
 go_step3
 go_wp2_with fail
 go_loopw [7] (fun sl wr => ∃ (f a' : Nat) (row : List Nat) (sl0 : Value),sl = sl0 ∧ Hid (r = rowD c n f row bs most ⟨a',out⟩) ∧ Hid (8 * bs.length - a' < f) ∧ Hid (Strm wr s p g ov bs a' out most) ∧ Hid (Own wr 3 1 sl0 row.length (zL row)) ∧ Hid (New w sl0) ∧ Hid (Chg [p] w wr) ∧ Hid (row.length ≤ n)) (fun _ wr => 8 * bs.length + 1 - (intOf ((wr.cell? ⟨p,1,none⟩).getD undef)).toNat)
 case atStart => exact ⟨F,a,[],_,rfl,HR,HF,H,HNI,HNN,Pal.hid (Chg.refl _ _),HLX⟩
 case round =>
  obtain ⟨f0,a',row,sl0,rfl,HRr,HFf,HST,HOW,HNW,HCH,HLN⟩ := hrel
  obtain ⟨f,rfl⟩ : ∃ f,f0 = f + 1 := ⟨f0 - 1,by have := HFf.out; omega⟩
  have hmeas : 8 * bs.length + 1 - (intOf ((wr.cell? ⟨p,1,none⟩).getD undef)).toNat = 8 * bs.length + 1 - a' := by
   rw [HST.out.pcell]
   simp [intOf]
  have HME := Pal.hid hmeas
  clear hmeas
  have hln := HLN.out
  obtain ⟨ao,ac,rfl⟩ := own_slice HOW.out
  by_cases hrow : row.length = n
  ·have hrb : ((row.length : Int) == (n : Int)) = true := by rw [hrow]; simp
   have HRR : Hid (r = .ok (row,⟨a',out⟩)) := Pal.hid (by rw [HRr.out]; rw [rowD,if_pos hrow]; rfl)
   go_wp2_with fail
   rw [Exit.noGoto_ret]
   go_ret
   rw [HRR.out]
   exact ⟨_,rfl,HST.out,rfl,HOW.out,HNW.out,HCH.out⟩
  ·have hrb : ((row.length : Int) == (n : Int)) = false := by simp; omega
   have hcA := HAA.out.cod HCA.out (toS HCH.out)
   obtain ⟨oo,oc,hov⟩ := own_slice HST.out.own
   have HK : Hid (∀ wx,Chg [p] wr wx → s < wx.heap.size ∧ wx.cell? ⟨s,0,none⟩ = some (.pointer (some ⟨p,0,none⟩)) ∧ wx.cell? ⟨s,1,none⟩ = some (.slice oo out.length oc) ∧ wx.cell? ⟨s,2,none⟩ = some (z64 most) ∧ wx.frozen? ⟨s,1,none⟩ = false) := Pal.hid fun wx hc => strm_cells (hov ▸ HST.out) hc
   have hTA := take_any hcA HRA.out hl HST.out.rd (fun e => HAA.out.1 (by simp [e])) (fun e => HAA.out.2.2 p e (by simp))
   obtain ⟨t,ht⟩ : ∃ t,tkE c (((bitsOfBytes bs).drop a').take 15) = t := ⟨_,rfl⟩
   rw [ht] at hTA
   obtain ⟨x,nx,ex⟩ := t
   simp only at hTA
   have HTA := Pal.hid hTA
   have HTT := Pal.hid ht
   clear hTA ht hcA hov
   obtain ⟨q0,q1,q2,q3,q4⟩ := HK.out wr (Chg.refl _ _)
   go_wp2_with fail
   refine HTA.out.mono ?_
   rintro e w3 ⟨rfl,r3,c3⟩
   have HR3 := Pal.hid r3
   have HC3 := Pal.hid c3
   have HZ3 : Hid (Chg [p] w w3) := Pal.hid (HCH.out.trans c3 (by simp))
   clear q0 q1 q2 q3 q4 r3 c3 HTA
   obtain ⟨q0,q1,q2,q3,q4⟩ := HK.out w3 HC3.out
   go_wp2_with fail
   by_cases hE : ex = 0
   ·subst hE
    have hRs := HRr.out.trans (row_step hrow HTT.out)
    have hn1 := tk_pos HTT.out
    have hxl := tk_lt HTT.out
    refine (mustIn_ok _ _).mono ?_
    rintro e w' ⟨rfl,hw'⟩
    rw [hw']
    clear hw'
    by_cases h16 : x = 16
    ·subst h16
     rw [if_pos rfl] at hRs
     have HRs := Pal.hid hRs
     clear hRs
     have hx: True := trivial
     go_wp2_with fail
     by_cases hroom : a' + nx + 2 ≤ 8 * bs.length
     ·have hRt := HRs.out.trans (seq_of (takeD_ok hroom))
      have hnl := num_lt bs (a' + nx) 2
      have HT4 := Pal.hid (take_ok p g bs (a' + nx) 2 w3 HR3.out (by omega) hroom)
      rw [show ((2 : Nat) : Int) = 2 from rfl] at HT4
      generalize numOf (((bitsOfBytes bs).drop (a' + nx)).take 2) = tn at *
      have HRt := Pal.hid hRt
      have htn : tn < 4 := hnl
      clear hRt hnl
      refine HT4.out.mono ?_
      rintro e w4 ⟨rfl,r4,c4⟩
      have HR4 := Pal.hid r4
      have HX4 := Pal.hid (HC3.out.trans c4 (by simp))
      have HZ4 : Hid (Chg [p] w w4) := Pal.hid (HZ3.out.trans c4 (by simp))
      have HS4 := Pal.hid (HST.out.read r4 HX4.out)
      have HO4 := Pal.hid (HX4.out.owns HOW.out (HPN.out _ HNW.out))
      clear q0 q1 q2 q3 q4 r4 c4 HT4
      have hwt : IntKind.i64.wrap (tn : Int) = tn := IntWalk.i64_in _ (by omega)
      obtain ⟨T,hT⟩ : ∃ T,T = 3 + tn := ⟨_,rfl⟩
      have hwT : IntKind.i64.wrap ((3 : Int) + (tn : Int)) = (T : Int) := by rw [IntWalk.i64_in _ (by omega)]; omega
      rw [← hT] at HRt
      have hT1 : 1 ≤ T := by omega
      have hT2 : T < 256 := by omega
      clear hT
      go_wp2_with fail
      refine (must64_ok _ _).mono ?_
      rintro e w' ⟨rfl,hw'⟩
      rw [hw']
      clear hw'
      by_cases hnil : row = []
      ·have HRR : Hid (r = .error 151) := Pal.hid (by rw [HRt.out]; exact when_yes hnil)
       have hz : row.length = 0 := by rw [hnil]; rfl
       have hzb : ((row.length : Int) == 0) = true := by rw [hz]; rfl
       go_wp2_with fail
       refine ⟨rfl,?_⟩
       rw [HRR.out]
       exact ⟨rfl,HZ4.out⟩
      ·have HRk := Pal.hid (HRt.out.trans (when_no hnil))
       have hpos : 0 < row.length := List.length_pos_iff.2 hnil
       have hzb : ((row.length : Int) == 0) = false := by simp; omega
       obtain ⟨g2,cp2,e2,hgl2⟩ := own_form HO4.out hpos
       cases e2
       have hgl3 := own_lt HO4.out rfl
       obtain ⟨L,hL⟩ : ∃ L,L = row.length - 1 := ⟨_,rfl⟩
       have hwL : IntKind.i64.wrap ((row.length : Int) - 1) = (L : Int) := by
        rw [show (row.length : Int) - 1 = (L : Int) by omega]
        exact IntWalk.i64_in _ (by omega)
       have hLn : (L : Int) < row.length := by omega
       obtain ⟨U,hU⟩ : ∃ U,U = row.getLastD 0 := ⟨_,rfl⟩
       have cL := own_cell HO4.out L (u := z64 (U : Nat)) (by
        rw [List.getElem?_map,hL,← List.getLast?_eq_getElem?,hU,List.getLastD_eq_getLast?]
        obtain ⟨z,hz⟩ := Option.ne_none_iff_exists'.1 (fun h => hnil (List.getLast?_eq_none_iff.1 h))
        rw [hz]
        rfl)
       rw [← hU] at HRk
       clear hL hU hnil
       by_cases hbig : n - row.length < T
       ·have HRR : Hid (r = .error 151) := Pal.hid (by rw [HRk.out]; exact when_yes hbig)
        have hbi : (n : Int) - (row.length : Int) < T := by omega
        have hbd : decide ((n : Int) - (row.length : Int) < T) = true := decide_eq_true hbi
        clear hbig
        go_wp2_with fail
        refine ⟨rfl,?_⟩
        rw [HRR.out]
        exact ⟨rfl,HZ4.out⟩
       ·have HRR := Pal.hid (HRk.out.trans (when_no hbig))
        have hbi : ¬ (n : Int) - (row.length : Int) < T := by omega
        have hbd : decide ((n : Int) - (row.length : Int) < T) = false := decide_eq_false hbi
        have HNT : Hid (row.length + T ≤ n) := Pal.hid (by omega)
        clear hbig
        go_wp2_with fail
        refine (repeat_any U T hT1 hT2 _ _ (Rd.one (m := 1) (c := 1) (sz := 1) (heap_new _ _) rfl)).mono ?_
        rintro e w5 ⟨vr,rfl,ho5,hn5,hc5⟩
        have hZ5 : Chg [] w4 w5 := ((Chg.refl [] w4).alloc _).trans hc5 (by simp)
        have HO5 := Pal.hid ho5
        have HOS5 := Pal.hid (hZ5.owns HO4.out (by simp))
        have HS5 := Pal.hid (HS4.out.still hZ5)
        have HZ5 := Pal.hid (HZ4.out.trans hZ5 (by simp))
        clear ho5 hn5 hc5 hZ5
        go_wp2_with (at_builtin; refine wpList_app slInt rfl _ _ rfl rfl rfl HOS5.out (Own.rd HO5.out) (by intro u hu; obtain rfl := List.eq_of_mem_replicate hu; rfl) (by omega) (by unfold maxLen; omega) ?_; intro v6 w6 own6 chg6 hat6; have HOW6 := Pal.hid own6; have HCG6 := Pal.hid chg6; have HAT6 := Pal.hid hat6; clear own6 chg6 hat6)
        have HS6 := Pal.hid (Strm.later H.out HS5.out HNW.out HCG6.out)
        have hpc := HS6.out.pcell
        have hle6 := HS6.out.le8.1
        refine ⟨⟨f,a' + nx + 2,row ++ List.replicate T U,_,rfl,HRR,Pal.hid (by have := HFf.out; omega),HS6,Pal.hid ?_,Pal.hid (HNW.out.app HAT6.out HZ5.out.size),Pal.hid (HZ5.out.onto HNW.out HCG6.out),Pal.hid (by rw [List.length_append,List.length_replicate]; exact HNT.out)⟩,?_⟩
        ·rw [List.length_append,List.length_replicate,zL,List.map_append,List.map_replicate]
         exact HOW6.out
        ·rw [HME.out,hpc]
         simp [intOf]
         omega
     ·have HRR := Pal.hid (HRs.out.trans (seq_bad (takeD_no hroom)))
      have HTF := Pal.hid (take_far p g bs (a' + nx) 2 w3 HR3.out (by omega) (by omega))
      rw [show ((2 : Nat) : Int) = 2 from rfl] at HTF
      refine HTF.out.mono ?_
      rintro e w4 ⟨rfl,nq,rfl⟩
      go_wp2_with fail
      refine (must64_bad _ 120 _ (by decide)).mono ?_
      rintro e w' ⟨rfl,rfl⟩
      go_wp2_with fail
      refine ⟨rfl,?_⟩
      rw [HRR.out]
      exact ⟨rfl,HZ3.out.drewN _⟩
    ·have h16b : ((x : Int) == 16) = false := by simp; omega
     rw [if_neg h16] at hRs
     by_cases h17 : x = 17
     ·subst h17
      rw [if_pos rfl] at hRs
      have HRs := Pal.hid hRs
      clear hRs
      have hx: True := trivial
      go_wp2_with fail
      by_cases hroom : a' + nx + 3 ≤ 8 * bs.length
      ·have hRt := HRs.out.trans (seq_of (takeD_ok hroom))
       have hnl := num_lt bs (a' + nx) 3
       have HT4 := Pal.hid (take_ok p g bs (a' + nx) 3 w3 HR3.out (by omega) hroom)
       rw [show ((3 : Nat) : Int) = 3 from rfl] at HT4
       generalize numOf (((bitsOfBytes bs).drop (a' + nx)).take 3) = tn at *
       have HRt := Pal.hid hRt
       have htn : tn < 8 := hnl
       clear hRt hnl
       refine HT4.out.mono ?_
       rintro e w4 ⟨rfl,r4,c4⟩
       have HR4 := Pal.hid r4
       have HX4 := Pal.hid (HC3.out.trans c4 (by simp))
       have HZ4 : Hid (Chg [p] w w4) := Pal.hid (HZ3.out.trans c4 (by simp))
       have HS4 := Pal.hid (HST.out.read r4 HX4.out)
       have HO4 := Pal.hid (HX4.out.owns HOW.out (HPN.out _ HNW.out))
       clear q0 q1 q2 q3 q4 r4 c4 HT4
       have hwt : IntKind.i64.wrap (tn : Int) = tn := IntWalk.i64_in _ (by omega)
       obtain ⟨T,hT⟩ : ∃ T,T = 3 + tn := ⟨_,rfl⟩
       have hwT : IntKind.i64.wrap ((3 : Int) + (tn : Int)) = (T : Int) := by rw [IntWalk.i64_in _ (by omega)]; omega
       rw [← hT] at HRt
       have hT1 : 1 ≤ T := by omega
       have hT2 : T < 256 := by omega
       clear hT
       go_wp2_with fail
       refine (must64_ok _ _).mono ?_
       rintro e w' ⟨rfl,hw'⟩
       rw [hw']
       clear hw'
       have HRk := HRt
       by_cases hbig : n - row.length < T
       ·have HRR : Hid (r = .error 151) := Pal.hid (by rw [HRk.out]; exact when_yes hbig)
        have hbi : (n : Int) - (row.length : Int) < T := by omega
        have hbd : decide ((n : Int) - (row.length : Int) < T) = true := decide_eq_true hbi
        clear hbig
        go_wp2_with fail
        refine ⟨rfl,?_⟩
        rw [HRR.out]
        exact ⟨rfl,HZ4.out⟩
       ·have HRR := Pal.hid (HRk.out.trans (when_no hbig))
        have hbi : ¬ (n : Int) - (row.length : Int) < T := by omega
        have hbd : decide ((n : Int) - (row.length : Int) < T) = false := decide_eq_false hbi
        have HNT : Hid (row.length + T ≤ n) := Pal.hid (by omega)
        clear hbig
        go_wp2_with fail
        refine (repeat_any 0 T hT1 hT2 _ _ (Rd.one (m := 1) (c := 1) (sz := 1) (heap_new _ _) rfl)).mono ?_
        rintro e w5 ⟨vr,rfl,ho5,hn5,hc5⟩
        have hZ5 : Chg [] w4 w5 := ((Chg.refl [] w4).alloc _).trans hc5 (by simp)
        have HO5 := Pal.hid ho5
        have HOS5 := Pal.hid (hZ5.owns HO4.out (by simp))
        have HS5 := Pal.hid (HS4.out.still hZ5)
        have HZ5 := Pal.hid (HZ4.out.trans hZ5 (by simp))
        clear ho5 hn5 hc5 hZ5
        go_wp2_with (at_builtin; refine wpList_app slInt rfl _ _ rfl rfl rfl HOS5.out (Own.rd HO5.out) (by intro u hu; obtain rfl := List.eq_of_mem_replicate hu; rfl) (by omega) (by unfold maxLen; omega) ?_; intro v6 w6 own6 chg6 hat6; have HOW6 := Pal.hid own6; have HCG6 := Pal.hid chg6; have HAT6 := Pal.hid hat6; clear own6 chg6 hat6)
        have HS6 := Pal.hid (Strm.later H.out HS5.out HNW.out HCG6.out)
        have hpc := HS6.out.pcell
        have hle6 := HS6.out.le8.1
        refine ⟨⟨f,a' + nx + 3,row ++ List.replicate T 0,_,rfl,HRR,Pal.hid (by have := HFf.out; omega),HS6,Pal.hid ?_,Pal.hid (HNW.out.app HAT6.out HZ5.out.size),Pal.hid (HZ5.out.onto HNW.out HCG6.out),Pal.hid (by rw [List.length_append,List.length_replicate]; exact HNT.out)⟩,?_⟩
        ·rw [List.length_append,List.length_replicate,zL,List.map_append,List.map_replicate]
         exact HOW6.out
        ·rw [HME.out,hpc]
         simp [intOf]
         omega
      ·have HRR := Pal.hid (HRs.out.trans (seq_bad (takeD_no hroom)))
       have HTF := Pal.hid (take_far p g bs (a' + nx) 3 w3 HR3.out (by omega) (by omega))
       rw [show ((3 : Nat) : Int) = 3 from rfl] at HTF
       refine HTF.out.mono ?_
       rintro e w4 ⟨rfl,nq,rfl⟩
       go_wp2_with fail
       refine (must64_bad _ 120 _ (by decide)).mono ?_
       rintro e w' ⟨rfl,rfl⟩
       go_wp2_with fail
       refine ⟨rfl,?_⟩
       rw [HRR.out]
       exact ⟨rfl,HZ3.out.drewN _⟩
     ·have h17b : ((x : Int) == 17) = false := by simp; omega
      rw [if_neg h17] at hRs
      by_cases h18 : x = 18
      ·subst h18
       rw [if_pos rfl] at hRs
       have HRs := Pal.hid hRs
       clear hRs
       have hx: True := trivial
       go_wp2_with fail
       by_cases hroom : a' + nx + 7 ≤ 8 * bs.length
       ·have hRt := HRs.out.trans (seq_of (takeD_ok hroom))
        have hnl := num_lt bs (a' + nx) 7
        have HT4 := Pal.hid (take_ok p g bs (a' + nx) 7 w3 HR3.out (by omega) hroom)
        rw [show ((7 : Nat) : Int) = 7 from rfl] at HT4
        generalize numOf (((bitsOfBytes bs).drop (a' + nx)).take 7) = tn at *
        have HRt := Pal.hid hRt
        have htn : tn < 128 := hnl
        clear hRt hnl
        refine HT4.out.mono ?_
        rintro e w4 ⟨rfl,r4,c4⟩
        have HR4 := Pal.hid r4
        have HX4 := Pal.hid (HC3.out.trans c4 (by simp))
        have HZ4 : Hid (Chg [p] w w4) := Pal.hid (HZ3.out.trans c4 (by simp))
        have HS4 := Pal.hid (HST.out.read r4 HX4.out)
        have HO4 := Pal.hid (HX4.out.owns HOW.out (HPN.out _ HNW.out))
        clear q0 q1 q2 q3 q4 r4 c4 HT4
        have hwt : IntKind.i64.wrap (tn : Int) = tn := IntWalk.i64_in _ (by omega)
        obtain ⟨T,hT⟩ : ∃ T,T = 11 + tn := ⟨_,rfl⟩
        have hwT : IntKind.i64.wrap ((11 : Int) + (tn : Int)) = (T : Int) := by rw [IntWalk.i64_in _ (by omega)]; omega
        rw [← hT] at HRt
        have hT1 : 1 ≤ T := by omega
        have hT2 : T < 256 := by omega
        clear hT
        go_wp2_with fail
        refine (must64_ok _ _).mono ?_
        rintro e w' ⟨rfl,hw'⟩
        rw [hw']
        clear hw'
        have HRk := HRt
        by_cases hbig : n - row.length < T
        ·have HRR : Hid (r = .error 151) := Pal.hid (by rw [HRk.out]; exact when_yes hbig)
         have hbi : (n : Int) - (row.length : Int) < T := by omega
         have hbd : decide ((n : Int) - (row.length : Int) < T) = true := decide_eq_true hbi
         clear hbig
         go_wp2_with fail
         refine ⟨rfl,?_⟩
         rw [HRR.out]
         exact ⟨rfl,HZ4.out⟩
        ·have HRR := Pal.hid (HRk.out.trans (when_no hbig))
         have hbi : ¬ (n : Int) - (row.length : Int) < T := by omega
         have hbd : decide ((n : Int) - (row.length : Int) < T) = false := decide_eq_false hbi
         have HNT : Hid (row.length + T ≤ n) := Pal.hid (by omega)
         clear hbig
         go_wp2_with fail
         refine (repeat_any 0 T hT1 hT2 _ _ (Rd.one (m := 1) (c := 1) (sz := 1) (heap_new _ _) rfl)).mono ?_
         rintro e w5 ⟨vr,rfl,ho5,hn5,hc5⟩
         have hZ5 : Chg [] w4 w5 := ((Chg.refl [] w4).alloc _).trans hc5 (by simp)
         have HO5 := Pal.hid ho5
         have HOS5 := Pal.hid (hZ5.owns HO4.out (by simp))
         have HS5 := Pal.hid (HS4.out.still hZ5)
         have HZ5 := Pal.hid (HZ4.out.trans hZ5 (by simp))
         clear ho5 hn5 hc5 hZ5
         go_wp2_with (at_builtin; refine wpList_app slInt rfl _ _ rfl rfl rfl HOS5.out (Own.rd HO5.out) (by intro u hu; obtain rfl := List.eq_of_mem_replicate hu; rfl) (by omega) (by unfold maxLen; omega) ?_; intro v6 w6 own6 chg6 hat6; have HOW6 := Pal.hid own6; have HCG6 := Pal.hid chg6; have HAT6 := Pal.hid hat6; clear own6 chg6 hat6)
         have HS6 := Pal.hid (Strm.later H.out HS5.out HNW.out HCG6.out)
         have hpc := HS6.out.pcell
         have hle6 := HS6.out.le8.1
         refine ⟨⟨f,a' + nx + 7,row ++ List.replicate T 0,_,rfl,HRR,Pal.hid (by have := HFf.out; omega),HS6,Pal.hid ?_,Pal.hid (HNW.out.app HAT6.out HZ5.out.size),Pal.hid (HZ5.out.onto HNW.out HCG6.out),Pal.hid (by rw [List.length_append,List.length_replicate]; exact HNT.out)⟩,?_⟩
         ·rw [List.length_append,List.length_replicate,zL,List.map_append,List.map_replicate]
          exact HOW6.out
         ·rw [HME.out,hpc]
          simp [intOf]
          omega
       ·have HRR := Pal.hid (HRs.out.trans (seq_bad (takeD_no hroom)))
        have HTF := Pal.hid (take_far p g bs (a' + nx) 7 w3 HR3.out (by omega) (by omega))
        rw [show ((7 : Nat) : Int) = 7 from rfl] at HTF
        refine HTF.out.mono ?_
        rintro e w4 ⟨rfl,nq,rfl⟩
        go_wp2_with fail
        refine (must64_bad _ 120 _ (by decide)).mono ?_
        rintro e w' ⟨rfl,rfl⟩
        go_wp2_with fail
        refine ⟨rfl,?_⟩
        rw [HRR.out]
        exact ⟨rfl,HZ3.out.drewN _⟩
      ·have h18b : ((x : Int) == 18) = false := by simp; omega
       rw [if_neg h18] at hRs
       have HRR := Pal.hid hRs
       clear hRs
       have HS3 := Pal.hid (HST.out.read HR3.out HC3.out)
       have HO3 := Pal.hid (HC3.out.owns HOW.out (HPN.out _ HNW.out))
       go_wp2_with (at_builtin; refine wpList_app slInt rfl _ _ rfl rfl rfl (HO3.out.alloc _) (Rd.one (heap_new _ _) rfl) (by intro u hu; simp at hu; subst hu; rfl) (by omega) (by unfold maxLen; omega) ?_; intro v6 w6 own6 chg6 hat6; have HOW6 := Pal.hid own6; have HCG6 := Pal.hid chg6; have HAT6 := Pal.hid hat6; clear own6 chg6 hat6)
       have ca : Chg [] w3 (w3.alloc (.cells #[z64 x] 3)) := (Chg.refl [] w3).alloc _
       have HZ5 := Pal.hid (HZ3.out.trans ca (by simp))
       have HS6 := Pal.hid (Strm.later H.out (HS3.out.still ca) HNW.out HCG6.out)
       have hpc := HS6.out.pcell
       have hle6 := HS6.out.le8.1
       refine ⟨⟨f,a' + nx,row ++ [x],_,rfl,HRR,Pal.hid (by have := HFf.out; omega),HS6,Pal.hid ?_,Pal.hid (HNW.out.app HAT6.out HZ5.out.size),Pal.hid (HZ5.out.onto HNW.out HCG6.out),Pal.hid (by rw [List.length_append]; simp; omega)⟩,?_⟩
       ·rw [List.length_append,zL,List.map_append]
        exact HOW6.out
       ·rw [HME.out,hpc]
        simp [intOf]
        omega
   ·have HRR : Hid (r = .error ex) := Pal.hid (HRr.out.trans (row_bad hrow HTT.out hE))
    refine (mustIn_bad _ ex _ hE).mono ?_
    rintro e w' ⟨rfl,rfl⟩
    go_wp2_with fail
    refine ⟨rfl,?_⟩
    rw [HRR.out]
    exact ⟨rfl,HZ3.out⟩
end Go.Proofs.YtiijhaajaglabaaGreat
set_option linter.unusedVariables false
namespace Go.Proofs.YtiijhaajaglabaaGreat
open Go.RowKit Go.ChangeShapes Go.WideShapes Go.ChangeAt Pal Pal.Cd Pal.Df
theorem wpList_buildTo {P : Program} {ops : Array Oper} {rest : List Oper} {o : Oper} {a : Act} {w : World} {Q : Exit → Act → World → Prop} (hgd : o.guard = none) (t : TypeId) (parts : Array (Nat × Operand)) (ho : o.op = .build t parts)
  (cs : Array Value) (hb : P.built t (parts.map fun (i,x) => (i,a.eval x)).toList = some cs) (h : wpList P ops Q rest (a.put o.dst (.agg cs)) w) : wpList P ops Q (o :: rest) a w :=
 wpList_plain hgd fun _ hK => wp_build t parts ho (by rw [hb]; rfl) (by rw [hb]; exact hK _ _ h)
theorem built19 : Tryz.prog.built 115 (((([16,17,18,0,8,7,9,6,10,5,11,4,12,3,13,2,14,1,15] : List Int).map (Value.int .i64)).zipIdx 0).map fun x => (x.2,x.1)) = some (rowI orderL) := by kernel_rfl
theorem resOrder : Tryz.f50.results = #[.cell 0 115] := by kernel_rfl
set_option maxRecDepth 100000 in
set_option maxHeartbeats 4000000 in
theorem order_any (w : World) : Calls Tryz.prog 50 #[] w fun e w' => e = .returned (.agg (rowI orderL)) ∧ Chg [] w w' := by
 obtain ⟨z19,s19⟩ := zero_of_info info19
 obtain ⟨l0,hl0⟩ : ∃ l,l = List.replicate 19 0 := ⟨_,rfl⟩
 rw [← hl0] at z19
 have hb := built19
 have hol : orderL.length = 19 := by decide
 obtain ⟨A,hA⟩ : ∃ A,A = orderL := ⟨_,rfl⟩
 rw [← hA] at hol ⊢
 have HB : Hid (∀ a : Act,Tryz.prog.built 115 ((#[(0,.const (.int .i64 16)),(1,.const (.int .i64 17)),(2,.const (.int .i64 18)),(3,.const (.int .i64 0)),(4,.const (.int .i64 8)),(5,.const (.int .i64 7)),(6,.const (.int .i64 9)),(7,.const (.int .i64 6)),(8,.const (.int .i64 10)),(9,.const (.int .i64 5)),(10,.const (.int .i64 11)),(11,.const (.int .i64 4)),(12,.const (.int .i64 12)),(13,.const (.int .i64 3)),(14,.const (.int .i64 13)),(15,.const (.int .i64 2)),(16,.const (.int .i64 14)),(17,.const (.int .i64 1)),(18,.const (.int .i64 15))] : Array (Nat × Operand)).map fun (i,x) => (i,a.eval x)).toList = some (rowI A)) := Pal.hid (fun a => by rw [hA]; exact (congrArg (Tryz.prog.built 115) (parts_eval a _ .i64 [16,17,18,0,8,7,9,6,10,5,11,4,12,3,13,2,14,1,15] rfl)).trans hb)
 have sA : Hid ((Tryz.prog.info? 115).map (·.size) = some (rowI A).size) := Pal.hid (by rw [size_rowI,hol]; exact s19)
 have sA0 : Hid ((rowI l0).size = (rowI A).size) := Pal.hid (by rw [size_rowI,size_rowI,hol,hl0,List.length_replicate])
 clear hl0 s19 hb hol hA
 go_enter Tryz.func50,Tryz.ntmps50
 go_wp2_with (first | refine wpList_buildTo rfl 115 _ rfl (rowI A) (HB.out _) ?_ | refine wpList_store_row rfl 115 _ _ rfl w.heap.size (rowI A) rfl rfl 115 (rowI l0) (heap_new w _) sA.out sA0.out (oneCell_rowI A) ?_)
 refine bodyPost_ret (results_cell_row resOrder _ _ w.heap.size 115 (rowI A) (0,0) _ rfl (setRow_heap _ w.heap.size _ (rowI A) _ _ (heap_new w _)) under19 rfl sA.out) rfl ?_
 exact ⟨rfl,((Chg.refl [] w).alloc _).setRow (.inr (Nat.le_refl _)) _⟩
end Go.Proofs.YtiijhaajaglabaaGreat
