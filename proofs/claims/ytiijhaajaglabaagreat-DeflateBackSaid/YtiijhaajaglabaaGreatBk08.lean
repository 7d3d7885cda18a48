/- Deflate's streams, as they are read: what bits tell, which error they are. Two laws that go through all of it: what is read of a beginning; what is read with a lower bound. No program in sight. The places that bear the same three bytes, the last first; that they are enough. No program in sight. The map of the finder: three bytes, and the last place that bears them. Contracts over lz: how long two places are alike. -/
import Derived.Test.YtiijhaajaglabaaGreatBk03
import Derived.Test.YtiijhaajaglabaaGreatBk07
import Derived.Test.YtiijhaajaglabaaGreatProg
import Derived.Outline
import Derived.WalkLawsBesides
import Derived.Maps.Own
import Derived.DeepKeys4
import Derived.Test.YtiijhaajaglabaaGreatBk01
import Derived.RegionTactic
import Derived.BigRegion
import Derived.Deep.RegionLaw
import Derived.Deep.DeepFit
import Derived.Deep.LoopGhost
set_option linter.unusedVariables false
set_option linter.unusedSimpArgs false
set_option linter.unusedVariables false
namespace Pal.Df
open Pal Pal.Cd Go.Proofs.YtiijhaajaglabaaGreat
structure St where
 a : Nat
 out : List Nat
abbrev Dec (α : Type) := List Nat → Nat → St → Except Int (α × St)
variable {α β : Type}
def ret (x : α) : Dec α := fun _ _ s => .ok (x,s)
def bad (e : Int) : Dec α := fun _ _ _ => .error e
def seq (f : Dec α) (g : α → Dec β) : Dec β := fun bs m s =>
 match f bs m s with
 | .ok (x,s') => g x bs m s'
 | .error e => .error e
def takeD (n : Nat) : Dec Nat := fun bs _ s => if s.a + n ≤ 8 * bs.length then .ok (numOf (((bitsOfBytes bs).drop s.a).take n),⟨s.a + n,s.out⟩) else .error 120
noncomputable def symD (l : List Int) : Dec Nat := fun bs _ s =>
 if (tkE l (((bitsOfBytes bs).drop s.a).take 15)).2.2 = 0 then .ok ((tkE l (((bitsOfBytes bs).drop s.a).take 15)).1,⟨s.a + (tkE l (((bitsOfBytes bs).drop s.a).take 15)).2.1,s.out⟩) else .error (tkE l (((bitsOfBytes bs).drop s.a).take 15)).2.2
def alignD : Dec Unit := fun _ _ s => .ok ((),⟨(s.a + 7) / 8 * 8,s.out⟩)
def fillD (n : Nat) : Dec Unit := fun bs m s => if m - s.out.length < n then .error 141 else if s.a % 8 = 0 ∧ s.a + 8 * n ≤ 8 * bs.length then .ok ((),⟨s.a + 8 * n,s.out ++ (bs.drop (s.a / 8)).take n⟩) else .error 120
def byteD (x : Nat) : Dec Unit := fun _ m s => if m - s.out.length < 1 then .error 141 else .ok ((),⟨s.a,s.out ++ [x]⟩)
def farD (far : Nat) : Dec Unit := fun _ _ s => if s.out.length < far then .error 140 else .ok ((),s)
def growD (far n : Nat) : Dec Unit := fun _ m s => if m - s.out.length < n then .error 141 else .ok ((),⟨s.a,grow s.out far n⟩)
def whenD (c : Prop) [Decidable c] (e : Int) : Dec Unit := if c then bad e else ret ()
def storedD : Dec Unit :=
 seq alignD fun _ => seq (takeD 16) fun n => seq (takeD 16) fun m => seq (whenD (n ^^^ m ≠ 65535) 150) fun _ => fillD n
noncomputable def matchD (d : List Int) (x : Nat) : Dec Unit :=
 seq (takeD (lw.getD (x - 257) 0)) fun more => seq (whenD (x = 284 ∧ more = 31) 152) fun _ => seq (symD d) fun y => seq (whenD (29 < y) 152) fun _ =>
 seq (takeD (dw.getD y 0)) fun far => seq (farD (df.getD y 0 + far)) fun _ => growD (df.getD y 0 + far) (lf.getD (x - 257) 0 + more)
noncomputable def packedD (l d : List Int) : Nat → Dec Unit
 | 0 => bad 1
 | f + 1 => seq (symD l) fun x => if x = 256 then ret () else if 285 < x then bad 152 else if 256 < x then seq (matchD d x) fun _ => packedD l d f else seq (byteD x) fun _ => packedD l d f
noncomputable def rowD (c : List Int) (n : Nat) : Nat → List Nat → Dec (List Nat)
 | 0,_ => bad 1
 | f + 1,row => if row.length = n then ret row else
  seq (symD c) fun x =>
   if x = 16 then seq (takeD 2) fun t => seq (whenD (row = []) 151) fun _ => seq (whenD (n - row.length < 3 + t) 151) fun _ => rowD c n f (row ++ List.replicate (3 + t) (row.getLastD 0))
   else if x = 17 then seq (takeD 3) fun t => seq (whenD (n - row.length < 3 + t) 151) fun _ => rowD c n f (row ++ List.replicate (3 + t) 0)
   else if x = 18 then seq (takeD 7) fun t => seq (whenD (n - row.length < 11 + t) 151) fun _ => rowD c n f (row ++ List.replicate (11 + t) 0)
   else rowD c n f (row ++ [x])
def intsL (l : List Nat) : List Int := l.map fun (x : Nat) => (x : Int)
abbrev nz (l : List Nat) : List Nat := l.filter fun x => decide (x ≠ 0)
def mayB (l : List Nat) (none : Bool) : Bool := decide (wtL (intsL l) = 32768) || ((decide (nz l = []) && none) || decide (nz l = [1]))
def codeD (l : List Nat) (none : Bool) : Dec Unit := whenD (mayB l none = false) 151
def orderL : List Nat := [16,17,18,0,8,7,9,6,10,5,11,4,12,3,13,2,14,1,15]
def lensD : Nat → Nat → List Nat → Dec (List Nat)
 | _,0,lens => ret lens
 | i,k + 1,lens => seq (takeD 3) fun x => lensD (i + 1) k (lens.set (orderL.getD i 0) x)
noncomputable def dynamicD (F : Nat) : Dec Unit :=
 seq (takeD 5) fun a => seq (takeD 5) fun b => seq (takeD 4) fun c => seq (whenD (286 < a + 257 ∨ 30 < b + 1) 151) fun _ =>
 seq (lensD 0 (c + 4) (List.replicate 19 0)) fun lens => seq (codeD lens false) fun _ => seq (rowD (intsL lens) (a + 257 + (b + 1)) F []) fun row => seq (whenD (row.getD 256 0 = 0) 151) fun _ =>
 seq (codeD (row.take (a + 257)) false) fun _ => seq (codeD (row.drop (a + 257)) true) fun _ => packedD (intsL (row.take (a + 257))) (intsL (row.drop (a + 257))) F
def fixL : List Nat := List.replicate 144 8 ++ List.replicate 112 9 ++ List.replicate 24 7 ++ List.replicate 8 8
def fixD : List Nat := List.replicate 32 5
noncomputable def fixedD (F : Nat) : Dec Unit := packedD (intsL fixL) (intsL fixD) F
noncomputable def blockD (F : Nat) : Dec (Nat × Nat) :=
 seq (takeD 1) fun last => seq (takeD 2) fun kind => seq (if kind = 0 then storedD else if kind = 1 then fixedD F else if kind = 2 then dynamicD F else bad 150) fun _ => ret (last,kind)
noncomputable def streamD (F : Nat) : Nat → Dec Unit
 | 0 => bad 1
 | f + 1 => seq (blockD F) fun b => if b.1 = 1 then ret () else streamD F f
/-! ### What is read of a beginning -/
def Cuts (f : Dec α) : Prop := ∀ bs m s x s',f bs m s = .ok (x,s') → s.a ≤ s'.a ∧ ∀ k,s.a ≤ 8 * k → k ≤ bs.length → (s'.a ≤ 8 * k → f (bs.take k) m s = .ok (x,s')) ∧ (8 * k < s'.a → f (bs.take k) m s = .error 120)
theorem seq_ok {f : Dec α} {g : α → Dec β} {bs : List Nat} {m : Nat} {s s' : St} {y : β} (h : seq f g bs m s = .ok (y,s')) : ∃ x s1,f bs m s = .ok (x,s1) ∧ g x bs m s1 = .ok (y,s') := by
 unfold seq at h
 split at h
 ·rename_i x s1 e
  exact ⟨x,s1,e,h⟩
 ·cases h
theorem seq_of {f : Dec α} {g : α → Dec β} {bs : List Nat} {m : Nat} {s s1 : St} {x : α} (h : f bs m s = .ok (x,s1)) : seq f g bs m s = g x bs m s1 := by
 unfold seq
 rw [h]
theorem seq_bad {f : Dec α} {g : α → Dec β} {bs : List Nat} {m : Nat} {s : St} {e : Int} (h : f bs m s = .error e) : seq f g bs m s = .error e := by
 unfold seq
 rw [h]
theorem when_no {g : Unit → Dec β} {bs : List Nat} {m : Nat} {s : St} {c : Prop} [Decidable c] {e : Int} (h : ¬ c) : seq (whenD c e) g bs m s = g () bs m s := by
 unfold whenD
 rw [if_neg h]
 rfl
theorem when_yes {g : Unit → Dec β} {bs : List Nat} {m : Nat} {s : St} {c : Prop} [Decidable c] {e : Int} (h : c) : seq (whenD c e) g bs m s = .error e := by
 unfold whenD
 rw [if_pos h]
 rfl
theorem Cuts.bad (e : Int) : Cuts (bad e : Dec α) := fun bs m s x s' h => by cases h
theorem Cuts.still {f : Dec α} (h1 : ∀ bs bs' m s,f bs m s = f bs' m s) (h2 : ∀ bs m s x s',f bs m s = .ok (x,s') → s'.a = s.a) : Cuts f := fun bs m s x s' h => by
 have e := h2 _ _ _ _ _ h
 exact ⟨by omega,fun k h3 h4 => ⟨fun _ => by rw [h1 _ bs]; exact h,fun h5 => by omega⟩⟩
theorem Cuts.ret (x : α) : Cuts (ret x) := Cuts.still (fun _ _ _ _ => rfl) (fun _ _ _ _ _ h => by cases h; rfl)
theorem Cuts.when (c : Prop) [Decidable c] (e : Int) : Cuts (whenD c e) := by
 unfold whenD
 split
 ·exact Cuts.bad e
 ·exact Cuts.ret ()
theorem Cuts.far (n : Nat) : Cuts (farD n) := Cuts.still (fun _ _ _ _ => rfl) (fun bs m s x s' h => by
 unfold farD at h
 split at h <;> cases h
 rfl)
theorem Cuts.byte (x : Nat) : Cuts (byteD x) := Cuts.still (fun _ _ _ _ => rfl) (fun bs m s x s' h => by
 unfold byteD at h
 split at h <;> cases h
 rfl)
theorem Cuts.grow (f n : Nat) : Cuts (growD f n) := Cuts.still (fun _ _ _ _ => rfl) (fun bs m s x s' h => by
 unfold growD at h
 split at h <;> cases h
 rfl)
theorem Cuts.align : Cuts alignD := fun bs m s x s' h => by
 cases h
 exact ⟨by show s.a ≤ (s.a + 7) / 8 * 8; omega,fun k h1 h2 => ⟨fun _ => rfl,fun h3 => by
  have h3 : 8 * k < (s.a + 7) / 8 * 8 := h3
  omega⟩⟩
theorem Cuts.seq {f : Dec α} {g : α → Dec β} (hf : Cuts f) (hg : ∀ x,Cuts (g x)) : Cuts (seq f g) := fun bs m s y s' h => by
 obtain ⟨x,s1,e1,e2⟩ := seq_ok h
 obtain ⟨f1,f2⟩ := hf bs m s x s1 e1
 obtain ⟨g1,g2⟩ := hg x bs m s1 y s' e2
 refine ⟨by omega,fun k h1 h2 => ?_⟩
 obtain ⟨f3,f4⟩ := f2 k h1 h2
 by_cases h3 : s1.a ≤ 8 * k
 ·obtain ⟨g3,g4⟩ := g2 k h3 h2
  have e := f3 h3
  exact ⟨fun h => by rw [seq_of e]; exact g3 h,fun h => by rw [seq_of e]; exact g4 h⟩
 ·exact ⟨fun h => by omega,fun _ => seq_bad (f4 (by omega))⟩
theorem Cuts.ite {c : Prop} [Decidable c] {f g : Dec α} (hf : Cuts f) (hg : Cuts g) : Cuts (if c then f else g) := by
 split
 ·exact hf
 ·exact hg
theorem bits_cut {bs : List Nat} {k a n : Nat} (h : a + n ≤ 8 * k) : ((bitsOfBytes (bs.take k)).drop a).take n = ((bitsOfBytes bs).drop a).take n := by
 rw [← take_bitsOfBytes,List.drop_take,List.take_take,Nat.min_eq_left (by omega)]
theorem Cuts.take (n : Nat) : Cuts (takeD n) := fun bs m s x s' h => by
 unfold takeD at h
 split at h
 ·cases h
  refine ⟨Nat.le_add_right _ _,fun k h1 h2 => ?_⟩
  have hl : (bs.take k).length = k := by simp; omega
  unfold takeD
  rw [hl]
  refine ⟨fun h3 => ?_,fun h3 => ?_⟩
  ·have h3 : s.a + n ≤ 8 * k := h3
   rw [if_pos h3,bits_cut h3]
  ·have h3 : 8 * k < s.a + n := h3
   rw [if_neg (by omega)]
 ·cases h
theorem Cuts.fill (n : Nat) : Cuts (fillD n) := fun bs m s x s' h => by
 unfold fillD at h
 split at h
 ·cases h
 ·rename_i h0
  split at h
  ·rename_i h9
   cases h
   refine ⟨Nat.le_add_right _ _,fun k h1 h2 => ?_⟩
   have hl : (bs.take k).length = k := by simp; omega
   unfold fillD
   rw [hl,if_neg h0]
   refine ⟨fun h3 => ?_,fun h3 => ?_⟩
   ·have h3 : s.a + 8 * n ≤ 8 * k := h3
    rw [if_pos ⟨h9.1,h3⟩,List.drop_take,List.take_take,Nat.min_eq_left (by omega)]
   ·have h3 : 8 * k < s.a + 8 * n := h3
    rw [if_neg (by omega)]
  ·cases h
/-! A symbol,of a beginning -/
theorem val_congr {b b' : List Nat} : ∀ n,(∀ i,i < n → b.getD i 0 = b'.getD i 0) → val b n = val b' n
 | 0,_ => rfl
 | n + 1,h => by
  show 2 * val b n + b.getD n 0 = 2 * val b' n + b'.getD n 0
  rw [val_congr n (fun i hi => h i (by omega)),h n (by omega)]
theorem hitUp_congr {l : List Int} {b b' : List Nat} : ∀ n,(∀ i,i < n → b.getD i 0 = b'.getD i 0) → hitUp l b n = hitUp l b' n
 | 0,_ => rfl
 | n + 1,h => by
  rw [hitUp,hitUp,hitUp_congr n (fun i hi => h i (by omega)),val_congr (n + 1) h]
theorem hitUp_first {l : List Int} {b : List Nat} : ∀ k s n,hitUp l b k = some (s,n) → 1 ≤ n ∧ n ≤ k ∧ hit l (val b n) n = some s ∧ ∀ j,j < n → hitUp l b j = none
 | 0,_,_,h => by cases h
 | k + 1,s,n,h => by
  rw [hitUp] at h
  cases h1 : hitUp l b k with
  | some r =>
   obtain ⟨s2,n2⟩ := r
   rw [h1] at h
   obtain ⟨rfl,rfl⟩ : s2 = s ∧ n2 = n := by simpa using h
   have := hitUp_first k _ _ h1
   exact ⟨this.1,by omega,this.2.2⟩
  | none =>
   rw [h1] at h
   simp only [Option.none_or,Option.map_eq_some_iff,Prod.mk.injEq] at h
   obtain ⟨s2,h2,rfl,rfl⟩ := h
   refine ⟨by omega,Nat.le_refl _,h2,fun j hj => ?_⟩
   cases h3 : hitUp l b j with
   | none => rfl
   | some r =>
    have := hitUp_stay h3 (k - j)
    rw [show j + (k - j) = k by omega,h1] at this
    cases this
theorem val_drop {b : List Nat} (hb : IsBits b) (m : Nat) : ∀ d,val b (m + d) / 2 ^ d = val b m
 | 0 => by simp
 | d + 1 => by
  have h1 := val_drop hb m d
  have h2 : b.getD (m + d) 0 < 2 := by
   rw [List.getD_eq_getElem?_getD]
   cases h : b[m + d]? with
   | none => simp
   | some x => exact hb x (List.mem_of_getElem? h)
  show (2 * val b (m + d) + b.getD (m + d) 0) / 2 ^ (d + 1) = _
  rw [show 2 ^ (d + 1) = 2 * 2 ^ d from Nat.pow_succ',← Nat.div_div_eq_div_mul,show (2 * val b (m + d) + b.getD (m + d) 0) / 2 = val b (m + d) by omega]
  exact h1
theorem tkE_some {l : List Int} {b : List Nat} (h : (tkE l b).2.2 = 0) : ∃ s n,hitUp l b (min b.length 15) = some (s,n) ∧ tkE l b = (s,n,0) := by
 unfold tkE at h ⊢
 cases h1 : hitUp l b (min b.length 15) with
 | some r => exact ⟨r.1,r.2,rfl,rfl⟩
 | none =>
  rw [h1] at h
  simp only at h
  split at h <;> simp at h
theorem tkE_cut {l : List Int} {b : List Nat} (hb : IsBits b) (hb15 : b.length ≤ 15) (h : (tkE l b).2.2 = 0) (m : Nat) (hm : m ≤ b.length) :
  ((tkE l b).2.1 ≤ m → tkE l (b.take m) = tkE l b) ∧ (m < (tkE l b).2.1 → tkE l (b.take m) = (0,0,120)) := by
 obtain ⟨s,n,h1,h2⟩ := tkE_some h
 rw [h2]
 obtain ⟨p1,p2,p3,p4⟩ := hitUp_first _ _ _ h1
 have hlen : (b.take m).length = m := by simp; omega
 have hc : ∀ j,j ≤ m → hitUp l (b.take m) j = hitUp l b j := fun j hj => hitUp_congr j fun i hi => by
  rw [List.getD_eq_getElem?_getD,List.getD_eq_getElem?_getD,List.getElem?_take,if_pos (by omega)]
 have hn : hitUp l b n = some (s,n) := by
  cases h3 : hitUp l b n with
  | none =>
   have : hitUp l b n = (hitUp l b (n - 1)).or ((hit l (val b n) n).map fun s => (s,n)) := by
    obtain ⟨q,rfl⟩ : ∃ q,n = q + 1 := ⟨n - 1,by omega⟩
    rfl
   rw [this,p4 (n - 1) (by omega),p3] at h3
   simp at h3
  | some r =>
   have := hitUp_stay h3 (min b.length 15 - n)
   rw [show n + (min b.length 15 - n) = min b.length 15 by omega,h1] at this
   exact this.symm
 refine ⟨fun h3 => ?_,fun h3 => ?_⟩
 ·have h3 : n ≤ m := h3
  refine tkE_hit (k := n) (by omega) ?_
  rw [hc n h3,hn]
 ·have h3 : m < n := h3
  have h4 : hitUp l (b.take m) (min (b.take m).length 15) = none := by
   rw [hlen,Nat.min_eq_left (by omega),hc m (Nat.le_refl _)]
   exact p4 m h3
  refine (tkE_none h4).1 ?_
  have h5 := List.find?_some p3
  have h6 := List.mem_of_find?_eq_some p3
  simp only [Bool.and_eq_true,beq_iff_eq] at h5
  refine ⟨s,List.mem_range.1 h6,by rw [h5.1,hlen]; omega,by rw [h5.1]; omega,?_⟩
  have h7 : len l s = n := by unfold len; rw [h5.1]; omega
  have h8 : val (b.take m) m = val b m := val_congr m fun i hi => by
   rw [List.getD_eq_getElem?_getD,List.getD_eq_getElem?_getD,List.getElem?_take,if_pos (by omega)]
  rw [hlen,h7,h5.2,h8]
  have := val_drop hb m (n - m)
  rwa [show m + (n - m) = n by omega] at this
theorem Cuts.sym (l : List Int) : Cuts (symD l) := fun bs m s x s' h => by
 unfold symD at h
 split at h
 ·rename_i h0
  cases h
  refine ⟨Nat.le_add_right _ _,fun k h1 h2 => ?_⟩
  have hib : IsBits (((bitsOfBytes bs).drop s.a).take 15) := ((isBits_bitsOfBytes bs).drop s.a).take 15
  have hbl : (((bitsOfBytes bs).drop s.a).take 15).length = min 15 (8 * bs.length - s.a) := by rw [List.length_take,List.length_drop,length_bitsOfBytes]
  have e : ((bitsOfBytes (bs.take k)).drop s.a).take 15 = (((bitsOfBytes bs).drop s.a).take 15).take (8 * k - s.a) := by
   rw [← take_bitsOfBytes,List.drop_take,List.take_take,List.take_take,Nat.min_comm]
  have hc := fun q => tkE_cut hib (by omega) h0 q
  unfold symD
  rw [e]
  by_cases hq : 8 * k - s.a ≤ (((bitsOfBytes bs).drop s.a).take 15).length
  ·obtain ⟨c1,c2⟩ := hc _ hq
   refine ⟨fun h3 => ?_,fun h3 => ?_⟩
   ·have h3 : s.a + (tkE l (((bitsOfBytes bs).drop s.a).take 15)).2.1 ≤ 8 * k := h3
    rw [c1 (by omega),if_pos h0]
   ·have h3 : 8 * k < s.a + (tkE l (((bitsOfBytes bs).drop s.a).take 15)).2.1 := h3
    rw [c2 (by omega)]
    rfl
  ·rw [List.take_of_length_le (Nat.le_of_not_le hq)]
   refine ⟨fun h3 => by rw [if_pos h0],fun h3 => ?_⟩
   have h3 : 8 * k < s.a + (tkE l (((bitsOfBytes bs).drop s.a).take 15)).2.1 := h3
   obtain ⟨s2,n2,h4,h5⟩ := tkE_some h0
   have := hitUp_first _ _ _ h4
   rw [h5] at h3
   have h3 : 8 * k < s.a + n2 := h3
   omega
 ·cases h
theorem Cuts.stored : Cuts storedD := Cuts.seq .align fun _ => Cuts.seq (.take _) fun _ => Cuts.seq (.take _) fun _ => Cuts.seq (.when _ _) fun _ => .fill _
theorem Cuts.matched (d : List Int) (x : Nat) : Cuts (matchD d x) :=
 Cuts.seq (.take _) fun _ => Cuts.seq (.when _ _) fun _ => Cuts.seq (.sym _) fun _ => Cuts.seq (.when _ _) fun _ => Cuts.seq (.take _) fun _ => Cuts.seq (.far _) fun _ => .grow _ _
theorem Cuts.packed (l d : List Int) : ∀ f,Cuts (packedD l d f)
 | 0 => .bad _
 | f + 1 => Cuts.seq (.sym _) fun x => .ite (.ret _) (.ite (.bad _) (.ite (Cuts.seq (.matched d x) fun _ => Cuts.packed l d f) (Cuts.seq (.byte x) fun _ => Cuts.packed l d f)))
theorem Cuts.row (c : List Int) (n : Nat) : ∀ f row,Cuts (rowD c n f row)
 | 0,_ => .bad _
 | f + 1,row => .ite (.ret _) (Cuts.seq (.sym _) fun x => .ite (Cuts.seq (.take _) fun _ => Cuts.seq (.when _ _) fun _ => Cuts.seq (.when _ _) fun _ => Cuts.row c n f _)
   (.ite (Cuts.seq (.take _) fun _ => Cuts.seq (.when _ _) fun _ => Cuts.row c n f _) (.ite (Cuts.seq (.take _) fun _ => Cuts.seq (.when _ _) fun _ => Cuts.row c n f _) (Cuts.row c n f _))))
theorem Cuts.lens : ∀ k i l,Cuts (lensD i k l)
 | 0,_,_ => .ret _
 | k + 1,i,l => Cuts.seq (.take _) fun _ => Cuts.lens k _ _
theorem Cuts.dynamic (F : Nat) : Cuts (dynamicD F) :=
 Cuts.seq (.take _) fun _ => Cuts.seq (.take _) fun _ => Cuts.seq (.take _) fun _ => Cuts.seq (.when _ _) fun _ => Cuts.seq (.lens _ _ _) fun _ => Cuts.seq (.when _ _) fun _ => Cuts.seq (.row _ _ _ _) fun _ =>
 Cuts.seq (.when _ _) fun _ => Cuts.seq (.when _ _) fun _ => Cuts.seq (.when _ _) fun _ => .packed _ _ _
theorem Cuts.block (F : Nat) : Cuts (blockD F) :=
 Cuts.seq (.take _) fun _ => Cuts.seq (.take _) fun _ => Cuts.seq (.ite .stored (.ite (.packed _ _ _) (.ite (.dynamic F) (.bad _)))) fun _ => .ret _
theorem Cuts.stream (F : Nat) : ∀ f,Cuts (streamD F f)
 | 0 => .bad _
 | f + 1 => Cuts.seq (.block F) fun _ => .ite (.ret _) (Cuts.stream F f)
/-! ### What is read with a lower bound -/
def Bnd (f : Dec α) : Prop := ∀ bs m s x s',f bs (m + 1) s = .ok (x,s') → s.out.length ≤ s'.out.length ∧ (s'.out.length ≤ m → f bs m s = .ok (x,s')) ∧ (s.out.length ≤ m → m < s'.out.length → f bs m s = .error 141)
theorem Bnd.bad (e : Int) : Bnd (bad e : Dec α) := fun bs m s x s' h => by cases h
theorem Bnd.still {f : Dec α} (h1 : ∀ bs m m' s,f bs m s = f bs m' s) (h2 : ∀ bs m s x s',f bs m s = .ok (x,s') → s'.out = s.out) : Bnd f := fun bs m s x s' h => by
 have e := h2 _ _ _ _ _ h
 exact ⟨by rw [e]; exact Nat.le_refl _,fun _ => by rw [h1 _ _ (m + 1)]; exact h,fun h5 h6 => by rw [e] at h6; omega⟩
theorem Bnd.ret (x : α) : Bnd (ret x) := Bnd.still (fun _ _ _ _ => rfl) (fun _ _ _ _ _ h => by cases h; rfl)
theorem Bnd.when (c : Prop) [Decidable c] (e : Int) : Bnd (whenD c e) := by
 unfold whenD
 split
 ·exact Bnd.bad e
 ·exact Bnd.ret ()
theorem Bnd.far (n : Nat) : Bnd (farD n) := Bnd.still (fun _ _ _ _ => rfl) (fun bs m s x s' h => by
 unfold farD at h
 split at h <;> cases h
 rfl)
theorem Bnd.align : Bnd alignD := Bnd.still (fun _ _ _ _ => rfl) (fun _ _ _ _ _ h => by cases h; rfl)
theorem Bnd.take (n : Nat) : Bnd (takeD n) := Bnd.still (fun _ _ _ _ => rfl) (fun bs m s x s' h => by
 unfold takeD at h
 split at h <;> cases h
 rfl)
theorem Bnd.sym (l : List Int) : Bnd (symD l) := Bnd.still (fun _ _ _ _ => rfl) (fun bs m s x s' h => by
 unfold symD at h
 split at h <;> cases h
 rfl)
theorem Bnd.byte (x : Nat) : Bnd (byteD x) := fun bs m s x s' h => by
 unfold byteD at h ⊢
 split at h
 ·cases h
 ·cases h
  refine ⟨by simp,fun h2 => ?_,fun h2 h3 => ?_⟩
  ·simp at h2
   rw [if_neg (by omega)]
  ·simp at h3
   rw [if_pos (by omega)]
theorem Bnd.grow (f n : Nat) : Bnd (growD f n) := fun bs m s x s' h => by
 unfold growD at h ⊢
 split at h
 ·cases h
 ·cases h
  have e := length_grow f n s.out
  refine ⟨by show s.out.length ≤ (Pal.grow s.out f n).length; omega,fun h2 => ?_,fun h2 h3 => ?_⟩
  ·have h2 : (Pal.grow s.out f n).length ≤ m := h2
   rw [if_neg (by omega)]
  ·have h3 : m < (Pal.grow s.out f n).length := h3
   rw [if_pos (by omega)]
theorem Bnd.fill (n : Nat) : Bnd (fillD n) := fun bs m s x s' h => by
 unfold fillD at h ⊢
 split at h
 ·cases h
 ·split at h
  ·rename_i h0 h1
   cases h
   have e : (s.out ++ (bs.drop (s.a / 8)).take n).length = s.out.length + n := by
    rw [List.length_append,List.length_take,List.length_drop]
    omega
   refine ⟨by show s.out.length ≤ (s.out ++ (bs.drop (s.a / 8)).take n).length; omega,fun h2 => ?_,fun h2 h3 => ?_⟩
   ·have h2 : (s.out ++ (bs.drop (s.a / 8)).take n).length ≤ m := h2
    rw [if_neg (by omega),if_pos h1]
   ·have h3 : m < (s.out ++ (bs.drop (s.a / 8)).take n).length := h3
    rw [if_pos (by omega)]
  ·cases h
theorem Bnd.seq {f : Dec α} {g : α → Dec β} (hf : Bnd f) (hg : ∀ x,Bnd (g x)) : Bnd (seq f g) := fun bs m s y s' h => by
 obtain ⟨x,s1,e1,e2⟩ := seq_ok h
 obtain ⟨f1,f2,f3⟩ := hf bs m s x s1 e1
 obtain ⟨g1,g2,g3⟩ := hg x bs m s1 y s' e2
 refine ⟨by omega,fun h1 => ?_,fun h1 h2 => ?_⟩
 ·rw [seq_of (f2 (by omega))]
  exact g2 h1
 ·by_cases h3 : s1.out.length ≤ m
  ·rw [seq_of (f2 h3)]
   exact g3 h3 h2
  ·exact seq_bad (f3 h1 (by omega))
theorem Bnd.ite {c : Prop} [Decidable c] {f g : Dec α} (hf : Bnd f) (hg : Bnd g) : Bnd (if c then f else g) := by
 split
 ·exact hf
 ·exact hg
theorem Bnd.stored : Bnd storedD := Bnd.seq .align fun _ => Bnd.seq (.take _) fun _ => Bnd.seq (.take _) fun _ => Bnd.seq (.when _ _) fun _ => .fill _
theorem Bnd.matched (d : List Int) (x : Nat) : Bnd (matchD d x) :=
 Bnd.seq (.take _) fun _ => Bnd.seq (.when _ _) fun _ => Bnd.seq (.sym _) fun _ => Bnd.seq (.when _ _) fun _ => Bnd.seq (.take _) fun _ => Bnd.seq (.far _) fun _ => .grow _ _
theorem Bnd.packed (l d : List Int) : ∀ f,Bnd (packedD l d f)
 | 0 => .bad _
 | f + 1 => Bnd.seq (.sym _) fun x => .ite (.ret _) (.ite (.bad _) (.ite (Bnd.seq (.matched d x) fun _ => Bnd.packed l d f) (Bnd.seq (.byte x) fun _ => Bnd.packed l d f)))
theorem Bnd.row (c : List Int) (n : Nat) : ∀ f row,Bnd (rowD c n f row)
 | 0,_ => .bad _
 | f + 1,row => .ite (.ret _) (Bnd.seq (.sym _) fun x => .ite (Bnd.seq (.take _) fun _ => Bnd.seq (.when _ _) fun _ => Bnd.seq (.when _ _) fun _ => Bnd.row c n f _)
   (.ite (Bnd.seq (.take _) fun _ => Bnd.seq (.when _ _) fun _ => Bnd.row c n f _) (.ite (Bnd.seq (.take _) fun _ => Bnd.seq (.when _ _) fun _ => Bnd.row c n f _) (Bnd.row c n f _))))
theorem Bnd.lens : ∀ k i l,Bnd (lensD i k l)
 | 0,_,_ => .ret _
 | k + 1,i,l => Bnd.seq (.take _) fun _ => Bnd.lens k _ _
theorem Bnd.dynamic (F : Nat) : Bnd (dynamicD F) :=
 Bnd.seq (.take _) fun _ => Bnd.seq (.take _) fun _ => Bnd.seq (.take _) fun _ => Bnd.seq (.when _ _) fun _ => Bnd.seq (.lens _ _ _) fun _ => Bnd.seq (.when _ _) fun _ => Bnd.seq (.row _ _ _ _) fun _ =>
 Bnd.seq (.when _ _) fun _ => Bnd.seq (.when _ _) fun _ => Bnd.seq (.when _ _) fun _ => .packed _ _ _
theorem Bnd.block (F : Nat) : Bnd (blockD F) :=
 Bnd.seq (.take _) fun _ => Bnd.seq (.take _) fun _ => Bnd.seq (.ite .stored (.ite (.packed _ _ _) (.ite (.dynamic F) (.bad _)))) fun _ => .ret _
theorem Bnd.stream (F : Nat) : ∀ f,Bnd (streamD F f)
 | 0 => .bad _
 | f + 1 => Bnd.seq (.block F) fun _ => .ite (.ret _) (Bnd.stream F f)
end Pal.Df
namespace Pal
open Go
def same3 (b : List Nat) (i j : Nat) : Prop := b.getD i 0 = b.getD j 0 ∧ b.getD (i + 1) 0 = b.getD (j + 1) 0 ∧ b.getD (i + 2) 0 = b.getD (j + 2) 0
instance (b : List Nat) (i j : Nat) : Decidable (same3 b i j) := by unfold same3; infer_instance
def lastK (b : List Nat) (i : Nat) : Nat → Int
 | 0 => -1
 | n + 1 => if n + 3 ≤ b.length ∧ same3 b n i then (n : Int) else lastK b i n
theorem same3.symm {b : List Nat} {i j : Nat} (h : same3 b i j) : same3 b j i := ⟨h.1.symm,h.2.1.symm,h.2.2.symm⟩
theorem same3.trans {b : List Nat} {i j k : Nat} (h : same3 b i j) (h' : same3 b j k) : same3 b i k := ⟨h.1.trans h'.1,h.2.1.trans h'.2.1,h.2.2.trans h'.2.2⟩
theorem lastK_spec (b : List Nat) (i : Nat) : ∀ n,(lastK b i n = -1 ∧ ∀ j,j < n → j + 3 ≤ b.length → ¬ same3 b j i) ∨
  ∃ q : Nat,lastK b i n = q ∧ q < n ∧ q + 3 ≤ b.length ∧ same3 b q i ∧ ∀ j,q < j → j < n → j + 3 ≤ b.length → ¬ same3 b j i
 | 0 => .inl ⟨rfl,fun j h => by omega⟩
 | n + 1 => by
  unfold lastK
  by_cases h : n + 3 ≤ b.length ∧ same3 b n i
  ·rw [if_pos h]
   exact .inr ⟨n,rfl,by omega,h.1,h.2,fun j h1 h2 => by omega⟩
  ·rw [if_neg h]
   rcases lastK_spec b i n with ⟨h1,h2⟩ | ⟨q,h1,h2,h3,h4,h5⟩
   ·refine .inl ⟨h1,fun j hj hl hs => ?_⟩
    rcases Nat.lt_or_ge j n with hlt | hge
    ·exact h2 j hlt hl hs
    ·obtain rfl : j = n := by omega
     exact h ⟨hl,hs⟩
   ·refine .inr ⟨q,h1,by omega,h3,h4,fun j hq hj hl hs => ?_⟩
    rcases Nat.lt_or_ge j n with hlt | hge
    ·exact h5 j hq hlt hl hs
    ·obtain rfl : j = n := by omega
     exact h ⟨hl,hs⟩
theorem lastK_lt (b : List Nat) (i n : Nat) : -1 ≤ lastK b i n ∧ lastK b i n < n := by
 rcases lastK_spec b i n with ⟨h1,_⟩ | ⟨q,h1,h2,_⟩ <;> rw [h1] <;> omega
theorem lastK_congr {b : List Nat} {i j : Nat} (h : same3 b i j) : ∀ n,lastK b i n = lastK b j n
 | 0 => rfl
 | n + 1 => by
  unfold lastK
  rw [lastK_congr h n]
  by_cases h1 : same3 b n i
  ·have h2 := h1.trans h
   simp only [h1,h2]
  ·have h2 : ¬ same3 b n j := fun e => h1 (e.trans h.symm)
   simp only [h1,h2]
def tryM (b : List Nat) (a most m : Nat) (t : Tk) : Tk := tryFrom b a most (a - m + 1) (min 32768 a - (a - m)) t
theorem tryFrom_full (b : List Nat) (a most : Nat) {t : Tk} (h : most ≤ t.l) : ∀ d k,tryFrom b a most d k t = t
 | d,0 => rfl
 | d,k + 1 => by rw [tryFrom,if_pos h]
theorem tryM_full (b : List Nat) (a most m : Nat) {t : Tk} (h : most ≤ t.l) : tryM b a most m t = t := tryFrom_full b a most h _ _
theorem tryM_far (b : List Nat) (a most m : Nat) (t : Tk) (h : 32768 ≤ a - m) : tryM b a most m t = t := by
 unfold tryM
 rw [show min 32768 a - (a - m) = 0 by omega]
 rfl
theorem tryM_zero (b : List Nat) (a most : Nat) (t : Tk) : tryM b a most 0 t = t := by
 unfold tryM
 rw [show min 32768 a - (a - 0) = 0 by omega]
 rfl
theorem tryM_step (b : List Nat) (a most m : Nat) (t : Tk) (hm : m < a) (h : a - m ≤ 32768) (hl : t.l < most) :
  tryM b a most (m + 1) t = tryM b a most m (if 3 ≤ matchLen b m a most ∧ t.l < matchLen b m a most then ⟨0,matchLen b m a most,a - m⟩ else t) := by
 unfold tryM
 rw [show min 32768 a - (a - (m + 1)) = (min 32768 a - (a - m)) + 1 by omega,tryFrom,if_neg (by omega),show a - (m + 1) + 1 = a - m by omega,show a - (a - m) = m by omega]
theorem tryM_skip (b : List Nat) (a most q : Nat) (t : Tk) (h3 : 3 ≤ most) : ∀ m,m ≤ a → q + 1 ≤ m → (∀ j,q < j → j < m → ¬ same3 b j a) → tryM b a most m t = tryM b a most (q + 1) t
 | 0,_,h,_ => by omega
 | m + 1,hm,h,hn => by
  rcases Nat.lt_or_ge q m with hlt | hge
  ·rcases Nat.lt_or_ge 32768 (a - m) with hf | hf
   ·rw [tryM_far _ _ _ _ _ (by omega),tryM_far _ _ _ _ _ (by omega)]
   ·rcases Nat.lt_or_ge t.l most with hl | hl
    ·rw [tryM_step b a most m t (by omega) hf hl,if_neg (fun e => hn m hlt (by omega) ((three_alike h3).1 e.1))]
     exact tryM_skip b a most q t h3 m (by omega) (by omega) fun j h1 h2 => hn j h1 (by omega)
    ·rw [tryM_full _ _ _ _ hl,tryM_full _ _ _ _ hl]
  ·obtain rfl : m = q := by omega
   rfl
theorem tryM_none (b : List Nat) (a most : Nat) (t : Tk) (h3 : 3 ≤ most) : ∀ m,m ≤ a → (∀ j,j < m → ¬ same3 b j a) → tryM b a most m t = t
 | 0,_,_ => tryM_zero b a most t
 | m + 1,hm,hn => by
  rcases Nat.lt_or_ge 32768 (a - m) with hf | hf
  ·exact tryM_far _ _ _ _ _ (by omega)
  ·rcases Nat.lt_or_ge t.l most with hl | hl
   ·rw [tryM_step b a most m t (by omega) hf hl,if_neg (fun e => hn m (by omega) ((three_alike h3).1 e.1))]
    exact tryM_none b a most t h3 m (by omega) fun j h1 => hn j (by omega)
   ·exact tryM_full _ _ _ _ hl
theorem tryM_at {b : List Nat} {a most m : Nat} {p : Int} (t : Tk) (h3 : 3 ≤ most) (hm : m ≤ a) (ha : a + 3 ≤ b.length) (hp : lastK b a m = p) (hl : t.l < most) :
  (p = -1 ∧ tryM b a most m t = t) ∨ ∃ q : Nat,p = q ∧ q < m ∧ q + 3 ≤ b.length ∧ same3 b q a ∧ lastK b q q = lastK b a q ∧ 3 ≤ matchLen b q a most ∧ matchLen b q a most ≤ most ∧
   (32768 < a - q → tryM b a most m t = t) ∧ (a - q ≤ 32768 → tryM b a most m t = tryM b a most q (if t.l < matchLen b q a most then ⟨0,matchLen b q a most,a - q⟩ else t)) := by
 rcases lastK_spec b a m with ⟨h1,h2⟩ | ⟨q,h1,h2,h4,h5,h6⟩
 ·exact .inl ⟨hp ▸ h1,tryM_none b a most t h3 m hm fun j hj => h2 j hj (by omega)⟩
 ·have hn := (three_alike h3).2 h5
  refine .inr ⟨q,hp ▸ h1,h2,h4,h5,lastK_congr h5 q,hn,matchLen_le _ _ _ _,fun hf => ?_,fun hf => ?_⟩
  ·rw [tryM_skip b a most q t h3 m hm h2 fun j hj1 hj2 => h6 j hj1 hj2 (by omega)]
   exact tryM_far _ _ _ _ _ (by omega)
  ·rw [tryM_skip b a most q t h3 m hm h2 fun j hj1 hj2 => h6 j hj1 hj2 (by omega),tryM_step b a most q t (by omega) hf hl]
   simp only [hn,true_and]
theorem tryFrom_short (b : List Nat) (a most : Nat) (h3 : most < 3) : ∀ k d t,tryFrom b a most d k t = t
 | 0,d,t => rfl
 | k + 1,d,t => by
  rw [tryFrom]
  split
  ·rfl
  ·have := matchLen_le b (a - d) a most
   show tryFrom b a most (d + 1) k (if 3 ≤ matchLen b (a - d) a most ∧ t.l < matchLen b (a - d) a most then ⟨0,matchLen b (a - d) a most,d⟩ else t) = t
   rw [if_neg (by omega)]
   exact tryFrom_short b a most h3 k _ t
theorem longestL_short {b : List Nat} {a : Nat} (h : mostAt b a < 3) : longestL b a = ⟨0,0,0⟩ := by
 unfold longestL
 split
 ·rfl
 ·exact tryFrom_short b a _ h _ _ _
theorem longestL_tryM {b : List Nat} {a : Nat} (h : a < b.length) : longestL b a = tryM b a (mostAt b a) a ⟨0,0,0⟩ := by
 unfold longestL tryM
 rw [if_neg (by omega),Nat.sub_self,Nat.zero_add,Nat.sub_zero]
structure Best (b : List Nat) (a most lo hi : Nat) (t : Tk) : Prop where
 what : t = ⟨0,0,0⟩ ∨ (t.b = 0 ∧ 3 ≤ t.l ∧ t.l ≤ most ∧ 1 ≤ t.d ∧ t.d < hi ∧ t.l = matchLen b (a - t.d) a most)
 all : ∀ d,lo ≤ d → d < hi → matchLen b (a - d) a most < 3 ∨ (matchLen b (a - d) a most ≤ t.l ∧ (matchLen b (a - d) a most = t.l → t.d ≤ d))
theorem best_from (b : List Nat) (a most : Nat) : ∀ k d t,1 ≤ d → Best b a most 1 d t → Best b a most 1 (d + k) (tryFrom b a most d k t)
 | 0,d,t,_,h => h
 | k + 1,d,t,hd,h => by
  rw [tryFrom]
  split
  ·rename_i hm
   refine ⟨?_,fun x h1 h2 => ?_⟩
   ·rcases h.what with e | ⟨e1,e2,e3,e4,e5,e6⟩
    ·exact .inl e
    ·exact .inr ⟨e1,e2,e3,e4,by omega,e6⟩
   ·rcases Nat.lt_or_ge x d with hx | hx
    ·exact h.all x h1 hx
    ·have := matchLen_le b (a - x) a most
     rcases h.what with rfl | ⟨e1,e2,e3,e4,e5,e6⟩
     ·have h0 : most ≤ 0 := hm
      exact .inl (by omega)
     ·exact .inr ⟨by omega,fun _ => by omega⟩
  ·rename_i hm
   have := matchLen_le b (a - d) a most
   have := best_from b a most k (d + 1) (if 3 ≤ matchLen b (a - d) a most ∧ t.l < matchLen b (a - d) a most then ⟨0,matchLen b (a - d) a most,d⟩ else t) (by omega) ?_
   ·rw [show d + (k + 1) = d + 1 + k by omega]
    exact this
   ·by_cases hc : 3 ≤ matchLen b (a - d) a most ∧ t.l < matchLen b (a - d) a most
    ·rw [if_pos hc]
     refine ⟨.inr ⟨rfl,hc.1,by assumption,hd,by show d < d + 1; omega,rfl⟩,fun x h1 h2 => ?_⟩
     rcases Nat.lt_or_ge x d with hx | hx
     ·rcases h.all x h1 hx with e | ⟨e1,e2⟩
      ·exact .inl e
      ·refine .inr ⟨?_,fun e3 => ?_⟩
       ·show _ ≤ matchLen b (a - d) a most
        omega
       ·have e4 : matchLen b (a - x) a most = matchLen b (a - d) a most := e3
        omega
     ·obtain rfl : x = d := by omega
      exact .inr ⟨Nat.le_refl _,fun _ => Nat.le_refl _⟩
    ·rw [if_neg hc]
     refine ⟨?_,fun x h1 h2 => ?_⟩
     ·rcases h.what with e | ⟨e1,e2,e3,e4,e5,e6⟩
      ·exact .inl e
      ·exact .inr ⟨e1,e2,e3,e4,by omega,e6⟩
     ·rcases Nat.lt_or_ge x d with hx | hx
      ·exact h.all x h1 hx
      ·obtain rfl : x = d := by omega
       rcases h.what with rfl | ⟨e1,e2,e3,e4,e5,e6⟩
       ·rcases Nat.lt_or_ge (matchLen b (a - x) a most) 3 with h3 | h3
        ·exact .inl h3
        ·exact absurd ⟨h3,by show 0 < _; omega⟩ hc
       ·rcases Nat.lt_or_ge (matchLen b (a - x) a most) 3 with h3 | h3
        ·exact .inl h3
        ·exact .inr ⟨by omega,fun _ => by omega⟩
theorem longestL_best {b : List Nat} {a : Nat} (h : a < b.length) : Best b a (mostAt b a) 1 (1 + min 32768 a) (longestL b a) := by
 unfold longestL
 rw [if_neg (by omega)]
 exact best_from b a _ _ 1 ⟨0,0,0⟩ (Nat.le_refl _) ⟨.inl rfl,fun d h1 h2 => by omega⟩
theorem longestL_ok (b : List Nat) (a : Nat) : (longestL b a) = ⟨0,0,0⟩ ∨ ((longestL b a).b = 0 ∧ 3 ≤ (longestL b a).l ∧ (longestL b a).l ≤ 258 ∧ (longestL b a).l ≤ b.length - a ∧ 1 ≤ (longestL b a).d ∧ (longestL b a).d ≤ 32768 ∧ (longestL b a).d ≤ a) := by
 rcases Nat.lt_or_ge a b.length with h | h
 ·rcases (longestL_best h).what with e | ⟨e1,e2,e3,e4,e5,e6⟩
  ·exact .inl e
  ·unfold mostAt at e3
   exact .inr ⟨e1,e2,by omega,by omega,e4,by omega,by omega⟩
 ·left
  unfold longestL
  rw [if_pos h]
end Pal
set_option linter.unusedVariables false
namespace Go.Proofs.YtiijhaajaglabaaGreat.Lz
open Go.RowKit Pal Go.MapKept
def key3 (b : List Nat) (i : Nat) : Value := .agg #[b8 (b.getD i 0),b8 (b.getD (i + 1) 0),b8 (b.getD (i + 2) 0)]
theorem key3_eq {b : List Nat} {i j : Nat} : key3 b i = key3 b j ↔ same3 b i j := by
 unfold key3 same3
 simp only [Value.agg.injEq,Array.mk.injEq,List.cons.injEq,Value.int.injEq,true_and,and_true]
 omega
theorem laidOutP : laidOutB Tryz.prog = true := by kernel_rfl
set_option maxRecDepth 100000 in
theorem wideK : (match Tryz.prog.underlying 181 with | some (.array _ _) | some (.struct _) => true | _ => false) = true := by kernel_rfl
set_option maxRecDepth 100000 in
theorem lawK : Go.Maps.Keyed Tryz.prog 181 := Go.Maps.Keyed.of_law (deep_law_laid laidOutP (m := 2) (by omega) (of_decide_eq_true (by kernel_rfl)) (by kernel_rfl) wideK)
theorem cellsK : Tryz.prog.cellsOf 181 = 3 := by kernel_rfl
theorem cells8 : Tryz.prog.cellsOf 5 = 1 := by kernel_rfl
theorem keyTypeK : Tryz.prog.keyType 181 = true := by kernel_rfl
theorem typesSz : ∃ n,Tryz.prog.types.size = n + 1 := ⟨Tryz.prog.types.size - 1,by have : 0 < Tryz.prog.types.size := of_decide_eq_true (by kernel_rfl); omega⟩
theorem keyOf3 (x y z : Nat) (hx : x < 256) (hy : y < 256) (hz : z < 256) : ∃ l,keyOf Tryz.prog 181 (.agg #[b8 x,b8 y,b8 z]) = some l := by
 obtain ⟨n,hn⟩ := typesSz
 have h1 : ∀ a : Nat,a < 256 → Tryz.prog.keyLits (n + 1) 5 [b8 a] = some [.int .u8 a] := fun a ha => by
  unfold Program.keyLits
  simp only [Tryz.underlying5]
  rw [if_pos ⟨trivial,by simp [Lit.wf,IntKind.min,IntKind.max,IntKind.bits,IntKind.signed]; omega⟩]
 have hf : (Value.agg #[b8 x,b8 y,b8 z]).formed Tryz.prog 181 = true := by simp [Value.formed,Tryz.underlying181,cellsK]
 refine Option.isSome_iff_exists.1 ?_
 unfold keyOf
 simp only [Tryz.underlying181,keyTypeK,hf,Bool.and_true,if_true,hn]
 unfold Program.keyLits
 simp only [Tryz.underlying181,cellsK,cells8,Value.cells]
 simp [List.range_succ,h1 x hx,h1 y hy,h1 z hz]
structure Keys (b : List Nat) (put : Nat) (es : Array MapEntry) : Prop where
 held : ∀ e ∈ es.toList,∃ i,i < put ∧ i + 3 ≤ b.length ∧ e.key = key3 b i ∧ e.val = z64 (lastK b i put)
 all : ∀ i,i < put → i + 3 ≤ b.length → ∃ e ∈ es.toList,e.key = key3 b i
 one : es.toList.Pairwise fun x y => x.key ≠ y.key
theorem Keys.start (b : List Nat) : Keys b 0 #[] := ⟨by simp,fun i hi => by omega,by simp⟩
theorem Keys.past {b : List Nat} {put : Nat} {es : Array MapEntry} (h : Keys b put es) (hp : b.length < put + 3) : Keys b (put + 1) es := by
 refine ⟨fun e he => ?_,fun i hi h3 => h.all i (by omega) h3,h.one⟩
 obtain ⟨i,h1,h2,h3,h4⟩ := h.held e he
 exact ⟨i,by omega,h2,h3,by rw [h4,lastK,if_neg (by omega)]⟩
theorem isKey3 {b : List Nat} (hb : ∀ x ∈ b,x < 256) (i : Nat) : ∃ l,keyOf Tryz.prog 181 (key3 b i) = some l := keyOf3 _ _ _ (getD_bytes hb _) (getD_bytes hb _) (getD_bytes hb _)
theorem Keys.keyed {b : List Nat} {put : Nat} {es : Array MapEntry} (h : Keys b put es) (hb : ∀ x ∈ b,x < 256) : ∀ e ∈ es.toList,∃ l,keyOf Tryz.prog 181 e.key = some l := fun e he => by
 obtain ⟨i,_,_,h3,_⟩ := h.held e he
 rw [h3]
 exact isKey3 hb i
theorem Keys.look {b : List Nat} {put : Nat} {es : Array MapEntry} (h : Keys b put es) (hb : ∀ x ∈ b,x < 256) (a : Nat) (w : World) :
  ((Instr.findKey 181 (key3 b a) es.toList).run Tryz.prog w = .ok none w ∧ lastK b a put = -1 ∧ ∀ e ∈ es.toList,e.key ≠ key3 b a) ∨
   ∃ j e,(Instr.findKey 181 (key3 b a) es.toList).run Tryz.prog w = .ok (some (j,e.val)) w ∧ es.toList[j]? = some e ∧ e.key = key3 b a ∧ e.val = z64 (lastK b a put) ∧ 0 ≤ lastK b a put := by
 obtain ⟨l,hl⟩ := isKey3 hb a
 rcases lawK.find w hl es.toList (h.keyed hb) with ⟨h1,h2⟩ | ⟨j,e,h1,h2,h3⟩
 ·refine .inl ⟨h1,?_,h2⟩
  rcases lastK_spec b a put with ⟨e,_⟩ | ⟨q,e,q1,q2,q3,_⟩
  ·exact e
  ·obtain ⟨e',he',hk⟩ := h.all q q1 q2
   exact absurd (hk.trans (key3_eq.2 q3)) (h2 e' he')
 ·refine .inr ⟨j,e,h1,h2,h3,?_⟩
  obtain ⟨i,i1,i2,i3,i4⟩ := h.held e (List.mem_of_getElem? h2)
  have hs := key3_eq.1 (i3.symm.trans h3)
  refine ⟨by rw [i4,lastK_congr hs],?_⟩
  rcases lastK_spec b a put with ⟨_,e2⟩ | ⟨q,e,_⟩
  ·exact absurd hs (e2 i i1 i2)
  ·rw [e]; omega
theorem run_look {b : List Nat} {put : Nat} {es : Array MapEntry} {clock mb : Nat} (h : Keys b put es) (hb : ∀ x ∈ b,x < 256) (a : Nat) (w : World) (hm : w.heap[mb]? = some (.map es clock)) :
  (Instr.lookup 141 (.map (some mb)) (key3 b a) true).run Tryz.prog w = .ok (.tuple #[z64 (if lastK b a put = -1 then 0 else lastK b a put),.bool (decide (¬ lastK b a put = -1))]) w := by
 obtain ⟨l,hl⟩ := isKey3 hb a
 have hz : (zeroValue 3).run Tryz.prog w = .ok (z64 0) w := by kernel_rfl
 rcases h.look hb a w with ⟨h1,h2,_⟩ | ⟨j,e,h1,_,_,h4,h5⟩
 ·rw [h2]
  simp [Instr.lookup,run_underlying Tryz.underlying141,MapKept.run_getObj_map hm,lawK.check w _ hl,h1,hz,Result.andThen]
 ·have hne : ¬ lastK b a put = -1 := by omega
  simp [Instr.lookup,run_underlying Tryz.underlying141,MapKept.run_getObj_map hm,lawK.check w _ hl,h1,h4,hne,Result.andThen]
theorem lastK_now {b : List Nat} {put : Nat} (h3 : put + 3 ≤ b.length) {i : Nat} (h : same3 b i put) : lastK b i (put + 1) = put := by
 rw [lastK,if_pos ⟨h3,h.symm⟩]
theorem lastK_other {b : List Nat} {put i : Nat} (h : ¬ same3 b i put) : lastK b i (put + 1) = lastK b i put := by
 rw [lastK,if_neg (fun e => h e.2.symm)]
theorem run_put {b : List Nat} {put : Nat} {es : Array MapEntry} {clock mb : Nat} (h : Keys b put es) (hb : ∀ x ∈ b,x < 256) (h3 : put + 3 ≤ b.length) (w : World) (hm : w.heap[mb]? = some (.map es clock)) :
  ∃ es' clock',(Instr.mapUpdate 141 (.map (some mb)) (key3 b put) (z64 put)).run Tryz.prog w = .ok () (ChangeMaps.setBlock w mb (.map es' clock')) ∧ Keys b (put + 1) es' := by
 obtain ⟨l,hl⟩ := isKey3 hb put
 rcases h.look hb put w with ⟨h1,h2,h4⟩ | ⟨j,e,h1,hj,hk,h4,h5⟩
 ·refine ⟨es.push ⟨key3 b put,z64 put,clock⟩,clock + 1,?_,?_⟩
  ·simp [Instr.mapUpdate,run_underlying Tryz.underlying141,MapKept.run_getObj_map hm,lawK.check w _ hl,h1,MapKept.run_setObj_map _ hm,Result.andThen,ChangeMaps.setBlock]
  ·refine ⟨fun e he => ?_,fun i hi hi3 => ?_,?_⟩
   ·simp only [Array.toList_push,List.mem_append,List.mem_singleton] at he
    rcases he with he | rfl
    ·obtain ⟨i,i1,i2,i3,i4⟩ := h.held e he
     have hn : ¬ same3 b i put := fun hs => h4 e he (i3.trans (key3_eq.2 hs))
     exact ⟨i,by omega,i2,i3,by rw [i4,lastK_other hn]⟩
    ·exact ⟨put,by omega,h3,rfl,by rw [lastK_now h3 ⟨rfl,rfl,rfl⟩]⟩
   ·rcases Nat.lt_or_ge i put with hlt | hge
    ·obtain ⟨e,he,hk⟩ := h.all i hlt hi3
     exact ⟨e,by simp [he],hk⟩
    ·obtain rfl : i = put := by omega
     exact ⟨_,by simp; exact .inr rfl,rfl⟩
   ·rw [Array.toList_push,List.pairwise_append]
    refine ⟨h.one,by simp,fun x hx y hy => ?_⟩
    obtain rfl := List.mem_singleton.1 hy
    exact h4 x hx
 ·have hje : es[j]? = some e := by simpa using hj
  have hjl : j < es.toList.length := (List.getElem?_eq_some_iff.1 hj).1
  have hat : es.toList[j] = e := (List.getElem?_eq_some_iff.1 hj).2
  refine ⟨es.modify j (fun e' => { e' with key := key3 b put,val := z64 put }),clock,?_,?_⟩
  ·simp [Instr.mapUpdate,run_underlying Tryz.underlying141,MapKept.run_getObj_map hm,lawK.check w _ hl,h1,hje,hk,lawK.stays w hl,MapKept.run_setObj_map _ hm,Result.andThen,ChangeMaps.setBlock]
  ·have hlist : (es.modify j (fun e' => { e' with key := key3 b put,val := z64 put })).toList = es.toList.set j { e with key := key3 b put,val := z64 put } := by
    rw [Array.toList_modify,ChangeMaps.modify_eq_set _ _ _ _ hj]
   have hone := h.one
   have hself : ({ e with key := key3 b put,val := z64 put } : MapEntry).key = e.key := hk.symm
   refine ⟨fun x hx => ?_,fun i hi hi3 => ?_,?_⟩
   ·rw [hlist] at hx
    obtain ⟨k,hk1,hk2⟩ := List.mem_iff_getElem.1 hx
    rw [List.getElem_set] at hk2
    split at hk2
    ·subst hk2
     exact ⟨put,by omega,h3,rfl,by rw [lastK_now h3 ⟨rfl,rfl,rfl⟩]⟩
    ·rename_i hne
     have hkl : k < es.toList.length := by simpa using hk1
     obtain ⟨i,i1,i2,i3,i4⟩ := h.held x (hk2 ▸ List.getElem_mem hkl)
     have hn : ¬ same3 b i put := fun hs => by
      have hxe : x.key = e.key := (i3.trans (key3_eq.2 hs)).trans hk.symm
      rw [List.pairwise_iff_getElem] at hone
      rcases Nat.lt_or_ge j k with hlt | hge
      ·exact hone j k hjl hkl hlt (by rw [hat,hk2,hxe])
      ·exact hone k j hkl hjl (by omega) (by rw [hat,hk2,hxe])
     exact ⟨i,by omega,i2,i3,by rw [i4,lastK_other hn]⟩
   ·rw [hlist]
    have hmem : ∃ e0 ∈ es.toList,e0.key = key3 b i := by
     rcases Nat.lt_or_ge i put with hlt | hge
     ·exact h.all i hlt hi3
     ·obtain rfl : i = put := by omega
      exact ⟨e,List.mem_of_getElem? hj,hk⟩
    obtain ⟨e0,he0,hk0⟩ := hmem
    obtain ⟨k,hk1,hk2⟩ := List.mem_iff_getElem.1 he0
    refine ⟨(es.toList.set j { e with key := key3 b put,val := z64 put })[k]'(by simpa using hk1),List.getElem_mem _,?_⟩
    rw [List.getElem_set]
    split
    ·rename_i hjk
     subst hjk
     show key3 b put = key3 b i
     rw [← hk,← hk0,← hk2,hat]
    ·rw [hk2,hk0]
   ·rw [hlist]
    rw [List.pairwise_iff_getElem] at hone ⊢
    intro i k hi hk' hik
    have hkey : ∀ (m : Nat) (hm : m < (es.toList.set j { e with key := key3 b put,val := z64 put }).length),(es.toList.set j { e with key := key3 b put,val := z64 put })[m].key = (es.toList[m]'(by simpa using hm)).key := by
     intro m hm
     rw [List.getElem_set]
     split
     ·rename_i hjm
      subst hjm
      rw [hself,hat]
     ·rfl
    rw [hkey i hi,hkey k hk']
    exact hone i k (by simpa using hi) (by simpa using hk') hik
end Go.Proofs.YtiijhaajaglabaaGreat.Lz
set_option linter.unusedVariables false
namespace Go.Proofs.YtiijhaajaglabaaGreat.Lz
open Go.RowKit Pal
theorem byte_at {w : World} {b off i : Nat} {bs : List Nat} (hcell : ∀ j u,(bs.map b8)[j]? = some u → w.cell? ⟨b,off + j,none⟩ = some u) (h : i < bs.length) : w.cell? ⟨b,off + i,none⟩ = some (b8 (bs.getD i 0)) := hcell _ _ (map_at h)
theorem alike_zero (b : List Nat) (p a n : Nat) : alike b p a n 0 = n := rfl
theorem alike_eq {b : List Nat} {p a n m : Nat} (h : b.getD (p + n) 0 = b.getD (a + n) 0) : alike b p a n (m + 1) = alike b p a (n + 1) m := by rw [alike,if_pos h]
theorem alike_ne {b : List Nat} {p a n m : Nat} (h : ¬ b.getD (p + n) 0 = b.getD (a + n) 0) : alike b p a n (m + 1) = n := by rw [alike,if_neg h]
theorem length_any (v : Value) (bs : List Nat) (p a most : Nat) (w : World) (hrd : Rd w 1 v bs.length (bs.map b8)) (hp : p + most ≤ bs.length) (ha : a + most ≤ bs.length) (h0 : 0 < bs.length) (hl : bs.length ≤ 1099511627776) :
  Calls Tryz.prog 103 #[v,z64 p,z64 a,z64 most] w fun e w' => e = .returned (z64 (matchLen bs p a most)) ∧ ∃ n,w' = w.drewN n := by
 obtain ⟨blk,off,cap,rfl,hmc,hblk,hcell⟩ := hrd.at (by simpa using h0)
 have HR : Hid (alike bs p a 0 most = matchLen bs p a most) := show _ = _ from rfl
 have hcap : (bs.length : Int) ≤ cap := by omega
 go_enter Tryz.func103,Tryz.ntmps103
 go_wp2_with fail
 go_loopw [9] (fun iv wr => ∃ n k : Nat,n ≤ most ∧ iv = z64 n ∧ wr = w.drewN k ∧ Hid (alike bs p a n (most - n) = matchLen bs p a most)) (fun iv _ => most - (intOf iv).toNat)
 case atStart => exact ⟨0,0,Nat.zero_le _,rfl,rfl,HR⟩
 case round =>
  obtain ⟨n,k,hn,rfl,rfl,HI⟩ := hrel
  by_cases hlt : n < most
  ·have c1 := byte_at (i := p + n) hcell (by omega)
   have c2 := byte_at (i := a + n) hcell (by omega)
   obtain ⟨x,hx⟩ : ∃ x,x = bs.getD (p + n) 0 := ⟨_,rfl⟩
   obtain ⟨y,hy⟩ : ∃ y,y = bs.getD (a + n) 0 := ⟨_,rfl⟩
   rw [← hx] at c1
   rw [← hy] at c2
   have t1 : ((p : Int) + (n : Int)).toNat = p + n := by omega
   have t2 : ((a : Int) + (n : Int)).toNat = a + n := by omega
   have u1 : IntKind.i64.wrap ((p : Int) + (n : Int)) = (p : Int) + n := IntWalk.i64_in _ (by omega)
   have u2 : IntKind.i64.wrap ((a : Int) + (n : Int)) = (a : Int) + n := IntWalk.i64_in _ (by omega)
   have i1 : (0 : Int) ≤ (p : Int) + n := by omega
   have i2 : (0 : Int) ≤ (a : Int) + n := by omega
   have i3 : (p : Int) + n < bs.length := by omega
   have i4 : (a : Int) + n < bs.length := by omega
   by_cases he : x = y
   ·have HN : Hid (alike bs p a (n + 1) (most - (n + 1)) = matchLen bs p a most) := by
     show _ = _
     have := HI.out
     rw [show most - n = (most - (n + 1)) + 1 by omega,alike_eq (by rw [← hx,← hy]; exact he)] at this
     exact this
    clear HI hx hy
    have hb : ((x : Int) == (y : Int)) = true := by rw [he]; simp
    go_wp2_with fail
    go_quiet (fail)
    go_wp2_with fail
    exact ⟨⟨n + 1,_,by omega,rfl,rfl,HN⟩,by simp [intOf]; omega⟩
   ·have HN : Hid (n = matchLen bs p a most) := by
     show _ = _
     have := HI.out
     rw [show most - n = (most - (n + 1)) + 1 by omega,alike_ne (by rw [← hx,← hy]; exact he)] at this
     exact this
    clear HI hx hy
    have hb : ((x : Int) == (y : Int)) = false := by simp; omega
    go_wp2_with fail
    go_quiet (fail)
    go_wp2_with fail
    go_ret
    exact ⟨by rw [← HN.out]; rfl,_,World.drewN_drewN _ _ _⟩
  ·obtain rfl : n = most := by omega
   have HN : Hid (n = matchLen bs p a n) := by
    show _ = _
    have := HI.out
    rwa [Nat.sub_self,alike_zero] at this
   clear HI
   go_wp2_with fail
   go_quiet (fail)
   go_wp2_with fail
   go_ret
   exact ⟨by rw [← HN.out]; rfl,_,World.drewN_drewN _ _ _⟩
end Go.Proofs.YtiijhaajaglabaaGreat.Lz
