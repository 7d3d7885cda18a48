/- Contracts over lz: Length, Distance, OfLength, OfDistance. What was packed is read back: tokens by two codes. No program in sight. Stored blocks, one behind the other, are read back; how long they are. No program in sight. A writer that is newer than a base world; stored blocks are written. Contracts over the document's answers: symbols there and back. Contracts over the document's answers: Length, Distance. Whole arrays of counts: laid, loaded, stored, compared, handed back. Contracts over lz: how often each symbol comes. -/
import Derived.Test.YtiijhaajaglabaaGreatBk10
import Derived.Test.YtiijhaajaglabaaGreatBk08
import Derived.Test.YtiijhaajaglabaaGreatBk03
import Derived.WalkLawsBesides
import Derived.Laws.Tables
import Derived.Laws.Rows
import Derived.Deep.WholeRow
import Derived.Deep.CutBlock
import Derived.Deep.DeepCutAuto
set_option linter.unusedVariables false
set_option linter.unusedSimpArgs false
set_option linter.unusedVariables false
namespace Go.Proofs.YtiijhaajaglabaaGreat.Lz
open Go.RowKit Go.ChangeShapes Go.WideShapes Go.ChangeAt Pal
def lenS (n : Nat) : Nat := symDown n lf 28
def disS (n : Nat) : Nat := symDown n df 29
theorem lenS_le (n : Nat) : lenS n ≤ 28 := (symDown_spec n lf 28).1
theorem disS_le (n : Nat) : disS n ≤ 29 := (symDown_spec n df 29).1
theorem xLength_in (n : Nat) (w : World) (h3 : 3 ≤ n) (h258 : n ≤ 258) : Calls Tryz.prog 43 #[z64 n] w fun e w' => e = .returned (.tuple #[zn (257 + lenS n),b64 (n - lf.getD (lenS n) 0),zn (lw.getD (lenS n) 0),z64 0]) ∧ Chg [] w w' := by
 have i3 : ¬ (n : Int) < 3 := by omega
 have i258 : ¬ (258 : Int) < n := by omega
 have hS := lenS_le n
 have HSd := Pal.hid (fun w' wv lv h1 h2 => symbol_any n 28 wv lv lw lf w' h1 h2 rfl rfl (by show 3 ≤ n; exact h3) (by decide) (by omega))
 obtain ⟨S,hS'⟩ : ∃ S,S = lenS n := ⟨_,rfl⟩
 have HSd2 : Hid (symDown n lf 28 = S) := show _ = S from hS'.symm
 rw [← hS'] at hS ⊢
 obtain ⟨X,hX⟩ : ∃ X,X = n - lf.getD S 0 := ⟨_,rfl⟩
 obtain ⟨Y,hY⟩ : ∃ Y,Y = lw.getD S 0 := ⟨_,rfl⟩
 rw [← hX,← hY]
 have hw257 : IntKind.i64.wrap (257 + (S : Int)) = ((257 + S : Nat) : Int) := IntWalk.i64_in _ (by omega)
 rw [HSd2.out,← hX,← hY] at HSd
 clear hS' hX hY HSd2
 go_enter Tryz.func43,Tryz.ntmps43
 go_wp2_with fail
 refine (lengths_any w).mono ?_
 rintro e w1 ⟨wv,lv,rfl,B,G,rfl,rfl,r1,r2,_,_,c1⟩
 go_wp2_with fail
 refine (HSd.out w1 _ _ r1 r2).mono ?_
 rintro e w2 ⟨rfl,k,rfl⟩
 go_wp2_with fail
 refine bodyPost_ret (by simp [results,Tryz.results43,go_sem]; try rfl) rfl ?_
 exact ⟨rfl,c1.drewN _⟩
theorem xDistance_in (n : Nat) (w : World) (h3 : 1 ≤ n) (h258 : n ≤ 32768) : Calls Tryz.prog 44 #[z64 n] w fun e w' => e = .returned (.tuple #[zn (disS n),b64 (n - df.getD (disS n) 0),zn (dw.getD (disS n) 0),z64 0]) ∧ Chg [] w w' := by
 have i3 : ¬ (n : Int) < 1 := by omega
 have i258 : ¬ (32768 : Int) < n := by omega
 have HSd := Pal.hid (fun w' wv lv h1 h2 => symbol_any n 29 wv lv dw df w' h1 h2 rfl rfl (by show 1 ≤ n; exact h3) (by decide) (by omega))
 obtain ⟨S,hS'⟩ : ∃ S,S = disS n := ⟨_,rfl⟩
 have HSd2 : Hid (symDown n df 29 = S) := show _ = S from hS'.symm
 rw [← hS']
 obtain ⟨X,hX⟩ : ∃ X,X = n - df.getD S 0 := ⟨_,rfl⟩
 obtain ⟨Y,hY⟩ : ∃ Y,Y = dw.getD S 0 := ⟨_,rfl⟩
 rw [← hX,← hY]
 rw [HSd2.out,← hX,← hY] at HSd
 clear hS' hX hY HSd2
 go_enter Tryz.func44,Tryz.ntmps44
 go_wp2_with fail
 refine (distances_any w).mono ?_
 rintro e w1 ⟨wv,lv,rfl,B,G,rfl,rfl,r1,r2,_,_,c1⟩
 go_wp2_with fail
 refine (HSd.out w1 _ _ r1 r2).mono ?_
 rintro e w2 ⟨rfl,k,rfl⟩
 go_wp2_with fail
 refine bodyPost_ret (by simp [results,Tryz.results44,go_sem]; try rfl) rfl ?_
 exact ⟨rfl,c1.drewN _⟩
theorem tab_cell {w : World} {B n : Nat} {l : List Nat} (h : Rd w 1 (.slice (some ⟨B,0,none⟩) n n) n (l.map zn)) (k : Nat) (hk : k < l.length) : w.cell? ⟨B,k,none⟩ = some (zn (l.getD k 0)) := by
 obtain ⟨ao,cap,hv,_,_,_,hc⟩ := h
 simp only [Value.slice.injEq] at hv
 have := hc _ hv.1.symm k _ (zn_at hk)
 rwa [addr_add,Nat.zero_add] at this
theorem ofLength_in (k : Nat) (w : World) (hk : k < 29) : Calls Tryz.prog 131 #[z64 ((257 + k : Nat) : Int)] w fun e w' => e = .returned (.tuple #[zn (lf.getD k 0),zn (lw.getD k 0),z64 0]) ∧ Chg [] w w' := by
 obtain ⟨s,hs⟩ : ∃ s,s = 257 + k := ⟨_,rfl⟩
 rw [← hs]
 have i1 : ¬ (s : Int) < 257 := by omega
 have i2 : ¬ (285 : Int) < s := by omega
 have hw : IntKind.i64.wrap ((s : Int) - 257) = (k : Int) := by
  rw [show (s : Int) - 257 = (k : Int) by omega]
  exact IntWalk.i64_in _ (by omega)
 have hki : (k : Int) < 29 := by omega
 clear hs
 go_enter Tryz.func131,Tryz.ntmps131
 go_wp2_with fail
 refine (lengths_any w).mono ?_
 rintro e w1 ⟨wv,lv,rfl,B,G,rfl,rfl,r1,r2,_,_,c1⟩
 have x1 := tab_cell r1 k hk
 have x2 := tab_cell r2 k hk
 obtain ⟨X,hX⟩ : ∃ X,X = lf.getD k 0 := ⟨_,rfl⟩
 obtain ⟨Y,hY⟩ : ∃ Y,Y = lw.getD k 0 := ⟨_,rfl⟩
 rw [← hY] at x1
 rw [← hX] at x2
 have HX := Pal.hid hX
 have HY := Pal.hid hY
 clear hX hY r1 r2
 have hl29 : lw.length = 29 := rfl
 rw [hl29]
 go_wp2_with fail
 go_quiet (fail)
 go_wp2_with fail
 go_ret3
 exact ⟨by rw [← HX.out,← HY.out]; rfl,c1.drewN _⟩
theorem ofDistance_in (k : Nat) (w : World) (hk : k < 30) : Calls Tryz.prog 132 #[z64 (k : Int)] w fun e w' => e = .returned (.tuple #[zn (df.getD k 0),zn (dw.getD k 0),z64 0]) ∧ Chg [] w w' := by
 have i1 : ¬ (k : Int) < 0 := by omega
 have i2 : ¬ (29 : Int) < k := by omega
 have hki : (k : Int) < 30 := by omega
 go_enter Tryz.func132,Tryz.ntmps132
 go_wp2_with fail
 refine (distances_any w).mono ?_
 rintro e w1 ⟨wv,lv,rfl,B,G,rfl,rfl,r1,r2,_,_,c1⟩
 have x1 := tab_cell r1 k hk
 have x2 := tab_cell r2 k hk
 obtain ⟨X,hX⟩ : ∃ X,X = df.getD k 0 := ⟨_,rfl⟩
 obtain ⟨Y,hY⟩ : ∃ Y,Y = dw.getD k 0 := ⟨_,rfl⟩
 rw [← hY] at x1
 rw [← hX] at x2
 have HX := Pal.hid hX
 have HY := Pal.hid hY
 clear hX hY r1 r2
 have hl29 : dw.length = 30 := rfl
 rw [hl29]
 go_wp2_with fail
 go_quiet (fail)
 go_wp2_with fail
 go_ret3
 exact ⟨by rw [← HX.out,← HY.out]; rfl,c1.drewN _⟩
end Go.Proofs.YtiijhaajaglabaaGreat.Lz
namespace Go.Proofs.YtiijhaajaglabaaGreat
open Pal Pal.Cd Pal.Df Lz
def At (bs : List Nat) (a : Nat) (R : List Nat) : Prop := a ≤ 8 * bs.length ∧ (bitsOfBytes bs).drop a = R
theorem At.room {bs X R : List Nat} {a : Nat} (h : At bs a (X ++ R)) : a + X.length ≤ 8 * bs.length := by
 have h3 := congrArg List.length h.2
 rw [List.length_drop,length_bitsOfBytes,List.length_append] at h3
 have := h.1
 omega
theorem At.head {bs X R : List Nat} {a : Nat} (h : At bs a (X ++ R)) : ((bitsOfBytes bs).drop a).take X.length = X := by rw [h.2,List.take_left]
theorem At.next {bs X R : List Nat} {a : Nat} (h : At bs a (X ++ R)) : At bs (a + X.length) R := by
 refine ⟨h.room,?_⟩
 rw [← List.drop_drop,h.2,List.drop_left]
theorem take_back {bs out R : List Nat} {m a x n : Nat} (h : At bs a (bitsOf x n ++ R)) (hx : x < 2 ^ n) : takeD n bs m ⟨a,out⟩ = .ok (x,⟨a + n,out⟩) := by
 have hr := h.room
 have hh := h.head
 rw [length_bitsOf] at hr hh
 unfold takeD
 rw [if_pos hr,hh,numOf_bitsOf_lt x n hx]
theorem take_next {bs R : List Nat} {a x n : Nat} (h : At bs a (bitsOf x n ++ R)) : At bs (a + n) R := by
 have := h.next
 rwa [length_bitsOf] at this
structure Can (l : List Int) (s : Nat) : Prop where
 lt : s < l.length
 pos : 0 < l.getD s 0
 le : l.getD s 0 ≤ 15
 code : (codes l).getD s 0 < 2 ^ len l s
theorem sym_back {bs out R : List Nat} {m a s : Nat} {l : List Int} (h : At bs a (symB l s ++ R)) (hc : Can l s) : symD l bs m ⟨a,out⟩ = .ok (s,⟨a + len l s,out⟩) := by
 have hl : len l s ≤ 15 := by have := hc.le; unfold len; omega
 have e : ((bitsOfBytes bs).drop a).take 15 = symB l s ++ R.take (15 - len l s) := by
  rw [h.2,List.take_append,List.take_of_length_le (by rw [length_symB]; exact hl),length_symB]
 unfold symD
 rw [e,tkE_symB hc.lt hc.pos hc.le hc.code]
 exact if_pos rfl
theorem sym_next {bs R : List Nat} {a s : Nat} {l : List Int} (h : At bs a (symB l s ++ R)) : At bs (a + len l s) R := by
 have := h.next
 rwa [length_symB] at this
def tokB (l d : List Int) (t : Tk) : List Nat :=
 if t.l = 0 then symB l t.b else symB l (257 + lenS t.l) ++ (bitsOf (t.l - lf.getD (lenS t.l) 0) (lw.getD (lenS t.l) 0) ++ (symB d (disS t.d) ++ bitsOf (t.d - df.getD (disS t.d) 0) (dw.getD (disS t.d) 0)))
def pkB (l d : List Int) (ts : List Tk) : List Nat := ts.flatMap (tokB l d) ++ symB l 256
def CanT (l d : List Int) (t : Tk) : Prop := if t.l = 0 then Can l t.b else Can l (257 + lenS t.l) ∧ Can d (disS t.d)
theorem len_facts : ∀ n,n < 259 → 3 ≤ n → lf.getD (lenS n) 0 ≤ n ∧ n - lf.getD (lenS n) 0 < 2 ^ lw.getD (lenS n) 0 ∧ ¬ (lenS n = 27 ∧ n - lf.getD (lenS n) 0 = 31) := by decide +kernel
theorem df_next' : ∀ k,k < 29 → df.getD (k + 1) 0 = df.getD k 0 + 2 ^ (dw.getD k 0) := by decide +kernel
theorem dis_facts {n : Nat} (h1 : 1 ≤ n) (h2 : n ≤ 32768) : df.getD (disS n) 0 ≤ n ∧ n - df.getD (disS n) 0 < 2 ^ dw.getD (disS n) 0 := by
 have hs := symDown_spec n df 29
 have e1 : df.getD (disS n) 0 ≤ n := hs.2.1 h1
 refine ⟨e1,?_⟩
 by_cases h : disS n < 29
 ·have e2 := hs.2.2 (disS n + 1) (by show disS n < disS n + 1; omega) (by omega)
  rw [df_next' _ h] at e2
  omega
 ·have e3 : disS n = 29 := by have := disS_le n; omega
  rw [e3] at e1 ⊢
  have e4 : df.getD 29 0 = 24577 := by decide
  have e5 : dw.getD 29 0 = 13 := by decide
  rw [e4,e5]
  omega
theorem match_back {bs out R : List Nat} {m a : Nat} {l d : List Int} {t : Tk} (ht : t.ok) (h0 : t.l ≠ 0) (hd : Can d (disS t.d)) (hfar : t.d ≤ out.length) (hroom : t.l ≤ m - out.length)
  (h : At bs a ((bitsOf (t.l - lf.getD (lenS t.l) 0) (lw.getD (lenS t.l) 0) ++ (symB d (disS t.d) ++ bitsOf (t.d - df.getD (disS t.d) 0) (dw.getD (disS t.d) 0))) ++ R)) :
  matchD d (257 + lenS t.l) bs m ⟨a,out⟩ = .ok ((),⟨a + lw.getD (lenS t.l) 0 + len d (disS t.d) + dw.getD (disS t.d) 0,grow out t.d t.l⟩) := by
 obtain ⟨hb,⟨h1,-⟩ | ⟨-,h3,h258,hd1,hd2⟩⟩ := ht
 ·exact absurd h1 h0
 obtain ⟨f1,f2,f3⟩ := len_facts t.l (by omega) h3
 obtain ⟨g1,g2⟩ := dis_facts hd1 hd2
 have hdis := disS_le t.d
 rw [List.append_assoc,List.append_assoc] at h
 unfold matchD
 rw [show 257 + lenS t.l - 257 = lenS t.l by omega]
 rw [seq_of (take_back h f2),when_no (by intro hh; exact f3 ⟨by omega,hh.2⟩)]
 have h' := take_next h
 rw [seq_of (sym_back h' hd),when_no (by omega)]
 have h'' := sym_next h'
 rw [seq_of (take_back h'' g2),show df.getD (disS t.d) 0 + (t.d - df.getD (disS t.d) 0) = t.d by omega,show lf.getD (lenS t.l) 0 + (t.l - lf.getD (lenS t.l) 0) = t.l by omega]
 have e1 : farD t.d bs m ⟨a + lw.getD (lenS t.l) 0 + len d (disS t.d) + dw.getD (disS t.d) 0,out⟩ = .ok ((),⟨a + lw.getD (lenS t.l) 0 + len d (disS t.d) + dw.getD (disS t.d) 0,out⟩) := if_neg (by show ¬ out.length < t.d; omega)
 rw [seq_of e1]
 exact if_neg (by show ¬ m - out.length < t.l; omega)
theorem packed_back {l d : List Int} {bs b : List Nat} {m : Nat} : ∀ (ts : List Tk) (f a i k : Nat) (acc R : List Nat),ts.length < f → (∀ t ∈ ts,t.ok) → (∀ t ∈ ts,CanT l d t) → Can l 256 → At bs a (pkB l d ts ++ R) → expandG m i acc ts = ⟨b,k,0⟩ →
  packedD l d f bs m ⟨a,acc⟩ = .ok ((),⟨a + (pkB l d ts).length,b⟩)
 | [],f,a,i,k,acc,R,hf,_,_,hE,hA,he => by
  obtain ⟨f,rfl⟩ : ∃ g,f = g + 1 := ⟨f - 1,by simp at hf; omega⟩
  obtain ⟨rfl,-,-⟩ : acc = b ∧ i = k ∧ (0 : Int) = 0 := by simpa [expandG] using he
  show seq (symD l) _ bs m ⟨a,acc⟩ = _
  rw [show pkB l d [] = symB l 256 from rfl] at hA ⊢
  rw [seq_of (sym_back hA hE),if_pos rfl,length_symB]
  rfl
 | t :: ts,f,a,i,k,acc,R,hf,hok,hcan,hE,hA,he => by
  obtain ⟨f,rfl⟩ : ∃ g,f = g + 1 := ⟨f - 1,by simp at hf; omega⟩
  rw [expandG] at he
  split at he
  ·cases he
  ·rename_i hfar
   split at he
   ·cases he
   ·rename_i hroom
    have htk := hok t (by simp)
    have hct := hcan t (by simp)
    have hpk : pkB l d (t :: ts) = tokB l d t ++ pkB l d ts := by simp [pkB]
    rw [hpk,List.append_assoc] at hA
    have hA2 := hA.next
    have ih := fun (acc' : List Nat) => packed_back (m := m) (b := b) ts f (a + (tokB l d t).length) (i + 1) k acc' R (by simp at hf; omega) (fun t ht => hok t (by simp [ht])) (fun t ht => hcan t (by simp [ht])) hE hA2
    rw [hpk,List.length_append,← Nat.add_assoc]
    show seq (symD l) _ bs m ⟨a,acc⟩ = _
    by_cases h0 : t.l = 0
    ·have hc : Can l t.b := by unfold CanT at hct; rwa [if_pos h0] at hct
     have e1 : tokB l d t = symB l t.b := by unfold tokB; rw [if_pos h0]
     rw [e1] at hA ih ⊢
     rw [length_symB] at ih ⊢
     have hb := htk.1
     rw [seq_of (sym_back hA hc),if_neg (by omega),if_neg (by omega),if_neg (by omega)]
     have e2 : byteD t.b bs m ⟨a + len l t.b,acc⟩ = .ok ((),⟨a + len l t.b,acc ++ [t.b]⟩) := if_neg (by show ¬ m - acc.length < 1; omega)
     rw [seq_of e2]
     have e3 : put1 acc t = acc ++ [t.b] := by unfold put1; rw [if_pos h0]
     rw [e3] at he
     exact ih _ he
    ·have hc : Can l (257 + lenS t.l) ∧ Can d (disS t.d) := by unfold CanT at hct; rwa [if_neg h0] at hct
     have e1 : tokB l d t = symB l (257 + lenS t.l) ++ (bitsOf (t.l - lf.getD (lenS t.l) 0) (lw.getD (lenS t.l) 0) ++ (symB d (disS t.d) ++ bitsOf (t.d - df.getD (disS t.d) 0) (dw.getD (disS t.d) 0))) := by unfold tokB; rw [if_neg h0]
     rw [e1] at hA ih ⊢
     have hls := lenS_le t.l
     rw [List.append_assoc (symB l (257 + lenS t.l))] at hA
     have hB := sym_next hA
     rw [seq_of (sym_back hA hc.1),if_neg (by omega),if_neg (by omega),if_pos (by omega),seq_of (match_back (l := l) htk h0 hc.2 (by omega) (by omega) hB)]
     have e3 : put1 acc t = grow acc t.d t.l := by unfold put1; rw [if_neg h0]
     rw [e3] at he
     have := ih _ he
     rw [List.length_append,List.length_append,List.length_append,length_symB,length_bitsOf,length_symB,length_bitsOf] at this ⊢
     rw [← Nat.add_assoc,← Nat.add_assoc,← Nat.add_assoc] at this ⊢
     exact this
end Go.Proofs.YtiijhaajaglabaaGreat
namespace Go.Proofs.YtiijhaajaglabaaGreat
open Pal Pal.Cd Pal.Df Lz
def hd5 (last n : Nat) : List Nat := [last,n % 256,n / 256,255 - n % 256,255 - n / 256]
def storedF : Nat → List Nat → List Nat
 | 0,b => hd5 1 b.length ++ b
 | f + 1,b => if b.length ≤ 65535 then hd5 1 b.length ++ b else hd5 0 65535 ++ b.take 65535 ++ storedF f (b.drop 65535)
def storedL (b : List Nat) : List Nat := storedF b.length b
theorem storedF_last {f : Nat} {b : List Nat} (h : b.length ≤ 65535) : storedF f b = hd5 1 b.length ++ b := by
 cases f with
 | zero => rfl
 | succ f => rw [storedF,if_pos h]
theorem storedF_more {f : Nat} {b : List Nat} (h : 65535 < b.length) : storedF (f + 1) b = hd5 0 65535 ++ b.take 65535 ++ storedF f (b.drop 65535) := by rw [storedF,if_neg (by omega)]
theorem isBytes_storedF : ∀ (f : Nat) (b : List Nat),b.length ≤ f → IsBytes b → IsBytes (storedF f b)
 | 0,b,hf,hb => by
  intro x hx
  rcases List.mem_append.1 hx with h | h
  ·have : b.length = 0 := by omega
   rw [this] at h
   simp [hd5] at h
   omega
  ·exact hb x h
 | f + 1,b,hf,hb => by
  by_cases h : b.length ≤ 65535
  ·rw [storedF_last h]
   intro x hx
   rcases List.mem_append.1 hx with h | h
   ·simp [hd5] at h
    omega
   ·exact hb x h
  ·rw [storedF_more (by omega)]
   intro x hx
   rcases List.mem_append.1 hx with h | h
   ·rcases List.mem_append.1 h with h | h
    ·simp [hd5] at h
     omega
    ·exact hb x (List.mem_of_mem_take h)
   ·exact isBytes_storedF f (b.drop 65535) (by rw [List.length_drop]; omega) (fun y hy => hb y (List.mem_of_mem_drop hy)) x h
theorem length_storedF : ∀ (f : Nat) (b : List Nat),b.length ≤ f → (storedF f b).length = b.length + 5 * max 1 ((b.length + 65534) / 65535)
 | 0,b,hf => by
  have : b.length = 0 := by omega
  simp [storedF,hd5,this]
 | f + 1,b,hf => by
  by_cases h : b.length ≤ 65535
  ·rw [storedF_last h]
   have : max 1 ((b.length + 65534) / 65535) = 1 := by omega
   rw [this]
   simp [hd5] <;> omega
  ·rw [storedF_more (by omega),List.length_append,List.length_append,length_storedF f (b.drop 65535) (by rw [List.length_drop]; omega),List.length_take,List.length_drop]
   simp only [hd5,List.length_cons,List.length_nil]
   omega
theorem length_storedL (b : List Nat) : (storedL b).length = b.length + 5 * max 1 ((b.length + 65534) / 65535) := length_storedF _ _ (Nat.le_refl _)
theorem xor_all {n : Nat} (h : n < 65536) : n ^^^ 65535 = 65535 - n := by
 have e : (BitVec.ofNat 16 n ^^^ BitVec.allOnes 16).toNat = n ^^^ 65535 := by
  rw [BitVec.toNat_xor,BitVec.toNat_ofNat,BitVec.toNat_allOnes,Nat.mod_eq_of_lt h]
 rw [← e,BitVec.xor_allOnes,BitVec.toNat_not,BitVec.toNat_ofNat,Nat.mod_eq_of_lt h]
theorem xor_both {n : Nat} (h : n < 65536) : n ^^^ (65535 - n) = 65535 := by
 rw [← xor_all h,← Nat.xor_assoc,Nat.xor_self,Nat.zero_xor]
theorem bits_hd5 {last n : Nat} {X : List Nat} (hl : last ≤ 1) (hn : n < 65536) : bitsOfBytes (hd5 last n ++ X) = bitsOf last 1 ++ (bitsOf 0 2 ++ (bitsOf 0 5 ++ (bitsOf n 16 ++ (bitsOf (65535 - n) 16 ++ bitsOfBytes X)))) := by
 have e1 : bitsOf last 8 = bitsOf last 1 ++ (bitsOf 0 2 ++ bitsOf 0 5) := by
  rcases (by omega : last = 0 ∨ last = 1) with rfl | rfl <;> rfl
 have e2 : ∀ k,k < 65536 → bitsOf k 16 = bitsOf (k % 256) 8 ++ bitsOf (k / 256) 8 := fun k _ => by
  rw [show (16 : Nat) = 8 + 8 from rfl,bitsOf_append,show (256 : Nat) = 2 ^ 8 from rfl,bitsOf_mod k 8 8 (Nat.le_refl _)]
 rw [e2 n hn,e2 (65535 - n) (by omega),show (65535 - n) % 256 = 255 - n % 256 by omega,show (65535 - n) / 256 = 255 - n / 256 by omega]
 simp only [hd5,List.cons_append,List.nil_append,bitsOfBytes_cons,e1,List.append_assoc]
theorem stored_block {F : Nat} {bs acc c R : List Nat} {m q last : Nat} (hl : last ≤ 1) (hc : c.length < 65536) (h : bs.drop q = hd5 last c.length ++ (c ++ R)) (hroom : acc.length + c.length ≤ m) :
  blockD F bs m ⟨8 * q,acc⟩ = .ok ((last,0),⟨8 * (q + 5 + c.length),acc ++ c⟩) := by
 have hlen : bs.length = q + (5 + (c.length + R.length)) := by
  have h3 := congrArg List.length h
  simp only [List.length_drop,List.length_append,hd5,List.length_cons,List.length_nil] at h3
  omega
 have hA : At bs (8 * q) (bitsOf last 1 ++ (bitsOf 0 2 ++ (bitsOf 0 5 ++ (bitsOf c.length 16 ++ (bitsOf (65535 - c.length) 16 ++ bitsOfBytes (c ++ R)))))) := ⟨by omega,by rw [drop_bitsOfBytes,h,bits_hd5 hl hc]⟩
 have hA1 := take_next hA
 have hA2 := take_next hA1
 have hA3 := take_next hA2
 have hA4 := take_next hA3
 unfold blockD
 rw [seq_of (take_back hA (by omega)),seq_of (take_back hA1 (by decide))]
 have e0 : storedD bs m ⟨8 * q + 1 + 2,acc⟩ = .ok ((),⟨8 * (q + 5 + c.length),acc ++ c⟩) := by
  unfold storedD
  have ea : alignD bs m ⟨8 * q + 1 + 2,acc⟩ = .ok ((),⟨8 * q + 1 + 2 + 5,acc⟩) := by
   show Except.ok _ = _
   rw [show (8 * q + 1 + 2 + 7) / 8 * 8 = 8 * q + 1 + 2 + 5 by omega]
  rw [seq_of ea,seq_of (take_back hA3 (by omega)),seq_of (take_back hA4 (by omega)),when_no (by rw [xor_both hc]; simp)]
  unfold fillD
  rw [if_neg (by show ¬ m - acc.length < c.length; omega)]
  have e5 : (8 * q + 1 + 2 + 5 + 16 + 16) = 8 * (q + 5) := by omega
  simp only [e5]
  rw [if_pos ⟨by omega,by omega⟩,show 8 * (q + 5) / 8 = q + 5 by omega,← List.drop_drop,h]
  have e6 : (hd5 last c.length ++ (c ++ R)).drop 5 = c ++ R := rfl
  rw [e6,List.take_left,show 8 * (q + 5) + 8 * c.length = 8 * (q + 5 + c.length) by omega]
 rw [if_pos rfl,seq_of e0]
 rfl
theorem stored_back {F : Nat} {bs : List Nat} {m : Nat} : ∀ (f k q : Nat) (b acc R : List Nat),b.length ≤ f → f < k → bs.drop q = storedF f b ++ R → acc.length + b.length ≤ m →
  streamD F k bs m ⟨8 * q,acc⟩ = .ok ((),⟨8 * (q + (storedF f b).length),acc ++ b⟩)
 | 0,0,_,_,_,_,_,h,_,_ => by omega
 | f + 1,0,_,_,_,_,_,h,_,_ => by omega
 | f,k + 1,q,b,acc,R,hf,hk,h,hr => by
  by_cases hb : b.length ≤ 65535
  ·rw [storedF_last hb] at h ⊢
   rw [List.append_assoc] at h
   rw [streamD,seq_of (stored_block (by omega) (by omega) h hr),if_pos rfl]
   show Except.ok _ = _
   rw [List.length_append,show (hd5 1 b.length).length = 5 from rfl,Nat.add_assoc]
  ·obtain ⟨f,rfl⟩ : ∃ g,f = g + 1 := ⟨f - 1,by omega⟩
   rw [storedF_more (by omega)] at h ⊢
   have e1 : (b.take 65535).length = 65535 := by rw [List.length_take]; omega
   have h2 : bs.drop q = hd5 0 (b.take 65535).length ++ (b.take 65535 ++ (storedF f (b.drop 65535) ++ R)) := by
    rw [h,e1]
    simp only [List.append_assoc]
   have h3 : bs.drop (q + 5 + (b.take 65535).length) = storedF f (b.drop 65535) ++ R := by
    have e5 : ∀ X : List Nat,(hd5 0 (b.take 65535).length ++ X).drop 5 = X := fun X => rfl
    rw [← List.drop_drop,← List.drop_drop,h2,e5,List.drop_left]
   have ih := stored_back (F := F) (bs := bs) (m := m) f k (q + 5 + (b.take 65535).length) (b.drop 65535) (acc ++ b.take 65535) R (by rw [List.length_drop]; omega) (by omega) h3 (by rw [List.length_append,List.length_drop,e1]; omega)
   rw [streamD,seq_of (stored_block (by omega) (by omega) h2 (by omega)),if_neg (by decide),ih,List.append_assoc,List.take_append_drop,List.length_append,List.length_append,show (hd5 0 65535).length = 5 from rfl]
   congr 4
   omega
end Go.Proofs.YtiijhaajaglabaaGreat
set_option linter.unusedVariables false
namespace Go.Proofs.YtiijhaajaglabaaGreat
open Go.RowKit Pal Pal.Cd Pal.Df
def Wn (W w : World) (p : Nat) (L : List Nat) : Prop := ∃ g,Wr w p g L ∧ (∀ k ∈ wfp p g,W.heap.size ≤ k) ∧ Chg [] W w
theorem Wn.chg {W w : World} {p : Nat} {L : List Nat} (h : Wn W w p L) : Chg [] W w := h.choose_spec.2.2
theorem Wn.still {W w w' : World} {p : Nat} {L : List Nat} (h : Wn W w p L) (hc : Chg [] w w') : Wn W w' p L := by
 obtain ⟨g,h1,h2,h3⟩ := h
 exact ⟨g,h1.keep hc (by simp),h2,h3.trans hc (by simp)⟩
theorem Wn.lt {W w : World} {p : Nat} {L : List Nat} (h : Wn W w p L) : W.heap.size ≤ p ∧ p < w.heap.size := by
 obtain ⟨g,h1,h2,h3⟩ := h
 exact ⟨h2 p (mem_wfp.2 (.inl rfl)),h1.lt p (mem_wfp.2 (.inl rfl))⟩
theorem Wn.bits {W w : World} {p : Nat} {L : List Nat} (h : Wn W w p L) : IsBits L := by
 obtain ⟨g,h1,h2,h3⟩ := h
 exact h1.bits
theorem Wn.next {W w w' : World} {p : Nat} {g : Option Nat} {L : List Nat} (h2 : ∀ k ∈ wfp p g,W.heap.size ≤ k) (h3 : Chg [] W w) (h : ∃ g',Wr w' p g' L ∧ Moved w g g' ∧ Chg (wfp p g) w w') : Wn W w' p L := by
 obtain ⟨g',a,b,c⟩ := h
 refine ⟨g',a,fun k hk => ?_,h3.trans c (fun k hk => .inr (h2 k hk))⟩
 rcases mem_wfp.1 hk with rfl | hk
 ·exact h2 _ (mem_wfp.2 (.inl rfl))
 ·rcases b with rfl | ⟨q,rfl,hq⟩
  ·exact h2 _ (mem_wfp.2 (.inr hk))
  ·obtain rfl : q = k := by simpa using hk
   have := h3.size
   omega
theorem wn_new {W w : World} (h : Chg [] W w) : Calls Tryz.prog 34 #[] w fun e w' => ∃ p,e = .returned (.pointer (some ⟨p,0,none⟩)) ∧ Wn W w' p [] := by
 refine (newWriter_any w).mono ?_
 rintro e w' ⟨p,rfl,hp,hw,hc⟩
 refine ⟨p,rfl,none,hw,fun k hk => ?_,h.trans hc (by simp)⟩
 rcases mem_wfp.1 hk with rfl | hk
 ·have := h.size; omega
 ·cases hk
theorem wn_put {W w : World} {p : Nat} {L : List Nat} (h : Wn W w p L) {x n : Nat} (hn : n ≤ 57) (hx : x < 2 ^ n) (hL : L.length ≤ 1099511627776) :
  Calls Tryz.prog 35 #[.pointer (some ⟨p,0,none⟩),b64 x,z64 n] w fun e w' => e = .returned (z64 0) ∧ Wn W w' p (L ++ bitsOf x n) := by
 obtain ⟨g,h1,h2,h3⟩ := h
 refine (put_ok p g L x n w h1 (wide_mk hn hx) (Nat.lt_of_lt_of_le hx (Nat.pow_le_pow_right (by omega) (by omega : n ≤ 64))) hL).mono ?_
 rintro e w' ⟨rfl,h⟩
 exact ⟨rfl,Wn.next h2 h3 h⟩
theorem wn_align {W w : World} {p : Nat} {L : List Nat} (h : Wn W w p L) (hL : L.length ≤ 1099511627776) :
  Calls Tryz.prog 36 #[.pointer (some ⟨p,0,none⟩)] w fun e w' => e = .returned (z64 0) ∧ Wn W w' p (padded L) := by
 obtain ⟨g,h1,h2,h3⟩ := h
 refine (align_ok p g L w h1 hL).mono ?_
 rintro e w' ⟨rfl,h⟩
 exact ⟨rfl,Wn.next h2 h3 h⟩
theorem wn_raw {W w : World} {p : Nat} {L : List Nat} (h : Wn W w p L) (h8 : L.length % 8 = 0) (hL : L.length ≤ 1099511627776) {v : Value} {n : Nat} {bl : List Nat} (hr : Rd W 1 v n (bl.map b8)) (hb : IsBytes bl) (hn : n ≤ 1099511627776) :
  Calls Tryz.prog 37 #[.pointer (some ⟨p,0,none⟩),v] w fun e w' => e = .returned (z64 0) ∧ Wn W w' p (L ++ bitsOfBytes bl) := by
 obtain ⟨g,h1,h2,h3⟩ := h
 refine (raw_ok p g L v n bl w h1 h8 hL (hr.keep h3 (by simp)) hb hn).mono ?_
 rintro e w' ⟨rfl,h⟩
 exact ⟨rfl,Wn.next h2 h3 h⟩
theorem wn_bytes {W w : World} {p : Nat} {L : List Nat} (h : Wn W w p L) (hL : L.length ≤ 1099511627776) :
  Calls Tryz.prog 38 #[.pointer (some ⟨p,0,none⟩)] w fun e w' => ∃ v,e = .returned v ∧ New W v ∧ Own w' 5 1 v (bytesOf L).length ((bytesOf L).map b8) ∧ Chg [] W w' := by
 obtain ⟨g,h1,h2,h3⟩ := h
 refine (bytes_ok p g L w h1 hL).mono ?_
 rintro e w' ⟨v,rfl,hv,ho,hc⟩
 exact ⟨v,rfl,fun k hk => by have := hv k hk; have := h3.size; omega,ho,h3.trans hc (by simp)⟩
/-! ### Stored blocks -/
theorem padded_3 {done : List Nat} {last : Nat} (hl : last ≤ 1) : padded (bitsOfBytes done ++ bitsOf last 3) = bitsOfBytes done ++ (bitsOf last 1 ++ (bitsOf 0 2 ++ bitsOf 0 5)) := by
 unfold padded
 rw [List.length_append,length_bitsOfBytes,length_bitsOf,show (8 - (8 * done.length + 3) % 8) % 8 = 5 by omega,List.append_assoc]
 congr 1
 rcases (by omega : last = 0 ∨ last = 1) with rfl | rfl <;> rfl
theorem rd_head {w : World} {ao : Option Addr} {cap n : Nat} {b : List Nat} (h : Rd w 1 (.slice ao b.length cap) b.length (b.map b8)) (hn : n ≤ b.length) : Rd w 1 (.slice ao n cap) n ((b.take n).map b8) := by
 obtain ⟨ao',cap',hv,hl,hc,h0,h1⟩ := h
 cases hv
 refine ⟨ao,cap,rfl,by simp; omega,by omega,fun e => ⟨by have := (h0 e).1; omega,(h0 e).2⟩,fun a ha j u hu => h1 a ha j u ?_⟩
 rw [List.map_take,List.getElem?_take] at hu
 split at hu
 ·exact hu
 ·cases hu
theorem rd_tail {w : World} {ao : Option Addr} {cap k : Nat} {b : List Nat} (h : Rd w 1 (.slice ao b.length cap) b.length (b.map b8)) (hk : k < b.length) :
  ∃ g off,ao = some ⟨g,off,none⟩ ∧ Rd w 1 (.slice (some ⟨g,off + k,none⟩) (b.length - k) (cap - k)) (b.length - k) ((b.drop k).map b8) := by
 obtain ⟨ao',cap',hv',hl,hc,h0,h1⟩ := h
 cases hv'
 obtain ⟨g,off,cap2,hv,hc2,-,hcell⟩ := Rd.at (w := w) (sz := 1) (v := .slice ao b.length cap) (m := b.length) (xs := b.map b8) ⟨ao,cap,rfl,hl,hc,h0,h1⟩ (by simp; omega)
 simp only [Value.slice.injEq] at hv
 obtain ⟨rfl,-,rfl⟩ := hv
 refine ⟨g,off,rfl,_,_,rfl,by simp,by omega,(fun h => by cases h),fun a ha j u hu => ?_⟩
 obtain rfl : (⟨g,off + k,none⟩ : Addr) = a := by simpa using ha
 rw [addr_add,Nat.add_assoc]
 refine hcell _ _ ?_
 rw [List.map_drop,List.getElem?_drop] at hu
 exact hu
theorem i64_xor (a b : Nat) (ha : a < 4294967296) (hb : b < 4294967296) : bits .xor .i64 (a : Int) (b : Int) = ((a ^^^ b : Nat) : Int) := by
 have h1 : (BitVec.ofInt 64 (a : Int)).toNat = a := by rw [BitVec.toNat_ofInt]; omega
 have h2 : (BitVec.ofInt 64 (b : Int)).toNat = b := by rw [BitVec.toNat_ofInt]; omega
 have key : (BitVec.ofInt 64 (a : Int) ^^^ BitVec.ofInt 64 (b : Int)).toNat = a ^^^ b := by rw [BitVec.toNat_xor,h1,h2]
 show IntKind.i64.wrap ((BitVec.ofInt 64 (a : Int) ^^^ BitVec.ofInt 64 (b : Int)).toNat : Nat) = _
 have h3 : a ^^^ b < 2 ^ 32 := Nat.xor_lt_two_pow (n := 32) ha hb
 rw [key,IntWalk.i64_in _ (by omega)]
set_option maxRecDepth 100000 in
set_option maxHeartbeats 8000000 in
theorem pstored_any {W w : World} {v : Value} {bs : List Nat} (hc : Chg [] W w) (hrd : Rd W 1 v bs.length (bs.map b8)) (hb : IsBytes bs) (hl : bs.length ≤ 1048576) :
  Calls Tryz.prog 17 #[v] w fun e w' => ∃ v',e = .returned v' ∧ New W v' ∧ Own w' 5 1 v' (storedL bs).length ((storedL bs).map b8) ∧ Chg [] W w' := by
 have HRD := Pal.hid hrd
 have HB := Pal.hid hb
 have HNW := Pal.hid (wn_new hc)
 obtain ⟨ao,cap,rfl,-⟩ := hrd
 obtain ⟨R,hR⟩ : ∃ R,R = storedL bs := ⟨_,rfl⟩
 have hRl : R.length ≤ 1048576 + 5 * 18 := by rw [hR,length_storedL]; omega
 have hRb : IsBytes R := by rw [hR]; exact isBytes_storedF _ _ (Nat.le_refl _) hb
 have HRB0 := Pal.hid hRb
 rw [← hR]
 have HR := Pal.hid hR
 have HRL := Pal.hid hRl
 clear hR hRb hb hc hRl
 go_enter Tryz.func17,Tryz.ntmps17
 go_wp2_with fail
 refine HNW.out.mono ?_
 rintro e w1 ⟨p,rfl,wn1⟩
 have HW1 := Pal.hid wn1
 clear wn1
 go_wp2_with fail
 go_loopw [0,4] (fun bv lv wr => ∃ (last f : Nat) (done b : List Nat) (ab : Option Addr) (cb : Nat),bv = .slice ab b.length cb ∧ lv = b64 last ∧ Hid (last ≤ 1) ∧ Hid (last = 1 → R = done) ∧ Hid (last = 0 → R = done ++ storedF f b ∧ b.length ≤ f) ∧ Hid (IsBytes b ∧ b.length ≤ 1048576) ∧ Hid (last = 0 → Rd W 1 (.slice ab b.length cb) b.length (b.map b8)) ∧ Hid (done.length ≤ 1048576 + 90) ∧ Hid (Wn W wr p (bitsOfBytes done))) (fun bv lv _ => match bv,lv with | .slice _ n _,.int _ l => 2 * n + 1 - l.toNat | _,_ => 0)
 case atStart => exact ⟨0,bs.length,[],bs,ao,cap,rfl,rfl,Pal.hid (by omega),Pal.hid (by omega),Pal.hid fun _ => ⟨by rw [HR.out]; rfl,Nat.le_refl _⟩,Pal.hid ⟨HB.out,hl⟩,Pal.hid fun _ => HRD.out,Pal.hid (by simp),HW1⟩
 case round =>
  obtain ⟨last,f,done,b,ab,cb,rfl,rfl,HLA,HL1,HL0,HBB,HRB,HDL,HWR⟩ := hrel
  have hdl := HDL.out
  by_cases h0 : last = 0
  ·subst h0
   have hbl := HBB.out.2
   have hrb := HRB.out rfl
   have HR0 := Pal.hid (HL0.out rfl)
   have hcb : b.length ≤ cb := by obtain ⟨_,_,e,_,h,_⟩ := hrb; cases e; exact h
   have hcbi : (b.length : Int) ≤ cb := by omega
   have hL0 : (bitsOfBytes done).length = 8 * done.length := length_bitsOfBytes done
   by_cases hlast : b.length ≤ 65535
   ·obtain ⟨N,hN⟩ : ∃ N,N = b.length := ⟨_,rfl⟩
    have hmin : (if (b.length : Int) < 65535 then (b.length : Int) else 65535) = b.length := by split <;> omega
    have hmin2 : min (b.length : Int) 65535 = b.length := by omega
    have hwx : bits .xor .i64 (b.length : Int) 65535 = ((65535 - b.length : Nat) : Int) := by
     rw [← xor_all (by omega),← i64_xor _ _ (by omega) (by omega)]
     rfl
    have hw1 : IntKind.u64.wrap (b.length : Int) = b.length := by rw [wrap_u64,Nat.mod_eq_of_lt (by omega)]
    have hw2 : IntKind.u64.wrap ((65535 - b.length : Nat) : Int) = ((65535 - b.length : Nat) : Int) := by rw [wrap_u64,Nat.mod_eq_of_lt (by omega)]
    have HP1 := Pal.hid (wn_put (x := 1) (n := 3) HWR.out (by decide) (by decide) (by omega))
    go_wp2_with fail
    refine HP1.out.mono ?_
    rintro e w2 ⟨rfl,wn2⟩
    have HP2 := Pal.hid (wn_align wn2 (by rw [List.length_append,length_bitsOf]; omega))
    rw [padded_3 (by decide)] at HP2
    clear wn2 HP1
    go_wp2_with fail
    refine HP2.out.mono ?_
    rintro e w3 ⟨rfl,wn3⟩
    have hl3 : (bitsOfBytes done ++ (bitsOf 1 1 ++ (bitsOf 0 2 ++ bitsOf 0 5))).length = 8 * done.length + 8 := by simp [length_bitsOf,hL0]
    have HP3 := Pal.hid (wn_put (x := b.length) (n := 16) wn3 (by decide) (by omega) (by omega))
    clear wn3 HP2
    go_wp2_with fail
    refine HP3.out.mono ?_
    rintro e w4 ⟨rfl,wn4⟩
    have HP4 := Pal.hid (wn_put (x := 65535 - b.length) (n := 16) wn4 (by decide) (by omega) (by rw [List.length_append,length_bitsOf]; omega))
    clear wn4 HP3
    go_wp2_with fail
    refine HP4.out.mono ?_
    rintro e w5 ⟨rfl,wn5⟩
    have HP5 := Pal.hid (wn_raw wn5 (by simp [length_bitsOf,hl3]; omega) (by simp [length_bitsOf,hl3]; omega) hrb HBB.out.1 (by omega))
    clear wn5 HP4 hwx hw1 hw2 hmin hmin2 hl3 hL0 hN N
    go_wp2_with fail
    refine HP5.out.mono ?_
    rintro e w6 ⟨rfl,wn6⟩
    have HW6 := Pal.hid wn6
    clear wn6 HP5
    go_wp2_with fail
    obtain ⟨hR0,hf0⟩ := HR0.out
    have hRl := HRL.out
    rw [storedF_last hlast] at hR0
    have hbits : bitsOfBytes done ++ (bitsOf 1 1 ++ (bitsOf 0 2 ++ bitsOf 0 5)) ++ bitsOf b.length 16 ++ bitsOf (65535 - b.length) 16 ++ bitsOfBytes b = bitsOfBytes R := by
     rw [hR0,bitsOfBytes_append,bits_hd5 (by decide) (by omega)]
     simp only [List.append_assoc]
    rw [hbits] at HW6
    refine ⟨⟨1,0,R,[],_,_,rfl,rfl,Pal.hid (by decide),Pal.hid (fun _ => rfl),Pal.hid (fun h => by omega),Pal.hid ⟨fun x hx => by simp at hx,by simp⟩,Pal.hid (fun h => by omega),Pal.hid (by omega),HW6⟩,?_⟩
    simp
   ·have hb65 : 65535 < b.length := by omega
    have hb65i : (65535 : Int) < b.length := by omega
    have hcb65 : 65535 < cb := by omega
    have hcb65i : (65535 : Int) < cb := by omega
    have hmin : (if (b.length : Int) < 65535 then (b.length : Int) else 65535) = 65535 := by split <;> omega
    have hmin2 : min (b.length : Int) 65535 = 65535 := by omega
    have hne : ((65535 : Int) == b.length) = false := by simp; omega
    have hRH := Pal.hid (rd_head (n := 65535) hrb (by omega))
    obtain ⟨g,off,rfl,hrt⟩ := rd_tail (k := 65535) hrb hb65
    have HRT := Pal.hid hrt
    have HP1 := Pal.hid (wn_put (x := 0) (n := 3) HWR.out (by decide) (by decide) (by omega))
    clear hrt hrb
    go_wp2_with fail
    refine HP1.out.mono ?_
    rintro e w2 ⟨rfl,wn2⟩
    have HP2 := Pal.hid (wn_align wn2 (by rw [List.length_append,length_bitsOf]; omega))
    rw [padded_3 (by decide)] at HP2
    clear wn2 HP1
    go_wp2_with fail
    refine HP2.out.mono ?_
    rintro e w3 ⟨rfl,wn3⟩
    have hl3 : (bitsOfBytes done ++ (bitsOf 0 1 ++ (bitsOf 0 2 ++ bitsOf 0 5))).length = 8 * done.length + 8 := by simp [length_bitsOf,hL0]
    have HP3 := Pal.hid (wn_put (x := 65535) (n := 16) wn3 (by decide) (by omega) (by omega))
    clear wn3 HP2
    go_wp2_with fail
    refine HP3.out.mono ?_
    rintro e w4 ⟨rfl,wn4⟩
    have HP4 := Pal.hid (wn_put (x := 0) (n := 16) wn4 (by decide) (by omega) (by rw [List.length_append,length_bitsOf]; omega))
    clear wn4 HP3
    go_wp2_with fail
    refine HP4.out.mono ?_
    rintro e w5 ⟨rfl,wn5⟩
    have HP5 := Pal.hid (wn_raw wn5 (by simp [length_bitsOf,hl3]; omega) (by simp [length_bitsOf,hl3]; omega) hRH.out (fun x hx => HBB.out.1 x (List.mem_of_mem_take hx)) (by omega))
    clear wn5 HP4 hmin hmin2 hl3 hL0 hne
    go_wp2_with fail
    refine HP5.out.mono ?_
    rintro e w6 ⟨rfl,wn6⟩
    have HW6 := Pal.hid wn6
    clear wn6 HP5
    go_wp2_with fail
    obtain ⟨hR0,hf0⟩ := HR0.out
    have hRl := HRL.out
    obtain ⟨f,rfl⟩ : ∃ f',f = f' + 1 := ⟨f - 1,by omega⟩
    rw [storedF_more hb65] at hR0
    have hbits : bitsOfBytes done ++ (bitsOf 0 1 ++ (bitsOf 0 2 ++ bitsOf 0 5)) ++ bitsOf 65535 16 ++ bitsOf 0 16 ++ bitsOfBytes (b.take 65535) = bitsOfBytes (done ++ (hd5 0 65535 ++ b.take 65535)) := by
     rw [bitsOfBytes_append,bits_hd5 (by decide) (by decide)]
     simp only [List.append_assoc]
    rw [hbits] at HW6
    have hlen := congrArg List.length hR0
    simp only [List.length_append] at hlen
    have hdrop : (b.drop 65535).length = b.length - 65535 := List.length_drop ..
    refine ⟨⟨0,f,done ++ (hd5 0 65535 ++ b.take 65535),b.drop 65535,_,_,by rw [hdrop],rfl,Pal.hid (by decide),Pal.hid (fun h => by omega),Pal.hid (fun _ => ⟨by rw [hR0]; simp only [List.append_assoc],by rw [hdrop]; omega⟩),Pal.hid ⟨fun x hx => HBB.out.1 x (List.mem_of_mem_drop hx),by rw [hdrop]; omega⟩,Pal.hid (fun _ => by rw [hdrop]; exact HRT.out),Pal.hid (by simp only [List.length_append]; omega),HW6⟩,?_⟩
    simp
    omega
  ·have h1 : last = 1 := by have := HLA.out; omega
   subst h1
   have hRD := HL1.out rfl
   have hRL := HRL.out
   go_wp2_with fail
   refine (wn_bytes HWR.out (by rw [length_bitsOfBytes]; omega)).mono ?_
   rintro e w2 ⟨v2,rfl,nw2,ow2,ch2⟩
   rw [bytesOf_bitsOfBytes done (by rw [← hRD]; exact HRB0.out),← hRD] at ow2
   go_wp2_with fail
   go_ret
   exact ⟨v2,rfl,nw2,ow2,ch2⟩
end Go.Proofs.YtiijhaajaglabaaGreat
set_option linter.unusedVariables false
namespace Go.Proofs.YtiijhaajaglabaaGreat.Lz
open Go.RowKit Go.ChangeShapes Go.WideShapes Go.ChangeAt Pal
end Go.Proofs.YtiijhaajaglabaaGreat.Lz
set_option linter.unusedVariables false
namespace Go.Proofs.YtiijhaajaglabaaGreat.Lz
open Go.RowKit Go.ChangeShapes Go.WideShapes Go.ChangeAt Pal
end Go.Proofs.YtiijhaajaglabaaGreat.Lz
set_option linter.unusedVariables false
namespace Go.Proofs.YtiijhaajaglabaaGreat.Lz
open Go.RowKit Go.ChangeShapes Go.WideShapes Go.ChangeAt Pal
abbrev c32 (x : Nat) : Value := .int .u32 x
abbrev row32 (l : List Nat) : Array Value := (l.map c32).toArray
theorem size_row32 (l : List Nat) : (row32 l).size = l.length := by simp [row32]
theorem oneCell_row32 (l : List Nat) : (row32 l).all (·.oneCell') = true := by
 rw [← Array.all_toList,List.all_eq_true]
 intro u hu
 simp [row32] at hu
 obtain ⟨a,_,rfl⟩ := hu
 rfl
theorem exec_load_row {P : Program} {o : Oper} {a : Act} {w : World} (ty : TypeId) (x : Operand) (ho : o.op = .load ty x)
  (g : Nat) (hx : a.eval x = .pointer (some ⟨g,0,none⟩)) (t : TypeId) (cs : Array Value) (fr : Nat × Nat) (d : TypeDesc) (hg : w.heap[g]? = some (.cells cs t fr))
  (hu : P.underlying ty = some d) (hd : (match d with | .struct _ | .array _ _ => true | _ => false) = true) (hi : (P.info? ty).map (·.size) = some cs.size) :
  (execOp a.eval o).run P w = .ok (.value (.agg cs)) w := by
 unfold execOp
 simp only [ho,hx,Instr.loadAt,Instr.sureAddr,Sem.run_bind,Sem.run_pure,Result.andThen_ok,run_loadVar_row w g t ty cs fr d hg hu hd hi]
theorem under52 : Tryz.prog.underlying 101 = some (.array 286 100) := by kernel_rfl
theorem under53 : Tryz.prog.underlying 102 = some (.array 30 100) := by kernel_rfl
theorem info52 : (Tryz.prog.info? 101).map (fun i => (i.zero,i.size)) = some (some (.agg (row32 (List.replicate 286 0))),286) := by kernel_rfl
theorem info53 : (Tryz.prog.info? 102).map (fun i => (i.zero,i.size)) = some (some (.agg (row32 (List.replicate 30 0))),30) := by kernel_rfl
theorem ret_cct {P : Program} {fn : Func} {p q u : Tmp} {ty ty2 : TypeId} (h : fn.results = #[.cell p ty,.cell q ty2,.tmp u]) (tmps : Array Value) (w : World) (g g2 : Nat) (t t2 : TypeId) (cs cs2 : Array Value) (fr fr2 : Nat × Nat) (d d2 : TypeDesc)
  (hp : tmps.getD p undef = .pointer (some ⟨g,0,none⟩)) (hg : w.heap[g]? = some (.cells cs t fr)) (hu : P.underlying ty = some d) (hd : (match d with | .struct _ | .array _ _ => true | _ => false) = true) (hi : (P.info? ty).map (·.size) = some cs.size)
  (hq : tmps.getD q undef = .pointer (some ⟨g2,0,none⟩)) (hg2 : w.heap[g2]? = some (.cells cs2 t2 fr2)) (hu2 : P.underlying ty2 = some d2) (hd2 : (match d2 with | .struct _ | .array _ _ => true | _ => false) = true) (hi2 : (P.info? ty2).map (·.size) = some cs2.size)
  {r : Value} (hr : tmps.getD u undef = r) : (results fn tmps).run P w = .ok (.tuple #[.agg cs,.agg cs2,r]) w := by
 have hp' : tmps[p]?.getD undef = .pointer (some ⟨g,0,none⟩) := by simpa using hp
 have hq' : tmps[q]?.getD undef = .pointer (some ⟨g2,0,none⟩) := by simpa using hq
 have hr' : tmps[u]?.getD undef = r := by simpa using hr
 simp [results,h,hp',hq',hr',asAddr,run_loadVar_row w g t ty cs fr d hg hu hd hi,run_loadVar_row w g2 t2 ty2 cs2 fr2 d2 hg2 hu2 hd2 hi2]
theorem ret_cc {P : Program} {fn : Func} {p q : Tmp} {ty ty2 : TypeId} (h : fn.results = #[.cell p ty,.cell q ty2]) (tmps : Array Value) (w : World) (g g2 : Nat) (t t2 : TypeId) (cs cs2 : Array Value) (fr fr2 : Nat × Nat) (d d2 : TypeDesc)
  (hp : tmps.getD p undef = .pointer (some ⟨g,0,none⟩)) (hg : w.heap[g]? = some (.cells cs t fr)) (hu : P.underlying ty = some d) (hd : (match d with | .struct _ | .array _ _ => true | _ => false) = true) (hi : (P.info? ty).map (·.size) = some cs.size)
  (hq : tmps.getD q undef = .pointer (some ⟨g2,0,none⟩)) (hg2 : w.heap[g2]? = some (.cells cs2 t2 fr2)) (hu2 : P.underlying ty2 = some d2) (hd2 : (match d2 with | .struct _ | .array _ _ => true | _ => false) = true) (hi2 : (P.info? ty2).map (·.size) = some cs2.size) :
  (results fn tmps).run P w = .ok (.tuple #[.agg cs,.agg cs2]) w := by
 have hp' : tmps[p]?.getD undef = .pointer (some ⟨g,0,none⟩) := by simpa using hp
 have hq' : tmps[q]?.getD undef = .pointer (some ⟨g2,0,none⟩) := by simpa using hq
 simp [results,h,hp',hq',asAddr,run_loadVar_row w g t ty cs fr d hg hu hd hi,run_loadVar_row w g2 t2 ty2 cs2 fr2 d2 hg2 hu2 hd2 hi2]
end Go.Proofs.YtiijhaajaglabaaGreat.Lz
set_option linter.unusedVariables false
namespace Go.Proofs.YtiijhaajaglabaaGreat.Lz
open Go.RowKit Go.ChangeShapes Go.WideShapes Go.ChangeAt Pal
def bump (l : List Nat) (i : Nat) : List Nat := l.set i (l.getD i 0 + 1)
def cntStep (p : List Nat × List Nat) (t : Tk) : List Nat × List Nat := if t.l = 0 then (bump p.1 t.b,p.2) else (bump p.1 (257 + lenS t.l),bump p.2 (disS t.d))
def cnt0 : List Nat × List Nat := ((List.replicate 286 0).set 256 1,List.replicate 30 0)
def countsL (ts : List Tk) : List Nat × List Nat := ts.foldl cntStep cnt0
theorem length_bump (l : List Nat) (i : Nat) : (bump l i).length = l.length := by simp [bump]
theorem bump_le {l : List Nat} {i b : Nat} (h : ∀ x ∈ l,x ≤ b) : ∀ x ∈ bump l i,x ≤ b + 1 := by
 intro x hx
 unfold bump at hx
 rcases List.mem_or_eq_of_mem_set hx with hx | rfl
 ·have := h x hx; omega
 ·rw [List.getD_eq_getElem?_getD]
  cases hi : l[i]? with
  | none => simp
  | some y => have := h y (List.mem_of_getElem? hi); simpa using this
theorem row_cell {w : World} {B : Nat} {l : List Nat} {t : TypeId} (h : w.heap[B]? = some (.cells (row32 l) t (0,0))) {i : Nat} (hi : i < l.length) : w.cell? ⟨B,i,none⟩ = some (c32 (l.getD i 0)) := by
 rw [cell_at h]
 simp only [List.getElem?_toArray]
 exact map_at (f := c32) hi
theorem row_set {w : World} {B : Nat} {l : List Nat} {t : TypeId} (h : w.heap[B]? = some (.cells (row32 l) t (0,0))) (i x : Nat) : (w.setCell ⟨B,i,none⟩ (c32 x)).heap[B]? = some (.cells (row32 (l.set i x)) t (0,0)) := by
 rw [heap_set h]
 simp [row32,List.map_set]
theorem resCounts : Tryz.f45.results = #[.cell 2 101,.cell 3 102,.tmp 4] := by kernel_rfl
set_option maxRecDepth 100000 in
set_option maxHeartbeats 4000000 in
theorem counts_any (v : Value) (ts : List Tk) (w : World) (hrd : Rd w 3 v ts.length (toksC ts)) (hok : ∀ t ∈ ts,t.ok) (hl : ts.length ≤ 1048576) :
  Calls Tryz.prog 45 #[v] w fun e w' => e = .returned (.tuple #[.agg (row32 (countsL ts).1),.agg (row32 (countsL ts).2),z64 0]) ∧ Chg [] w w' := by
 have HRD := Pal.hid hrd
 obtain ⟨ao,cap,rfl,_⟩ := hrd
 have HOK := Pal.hid hok
 obtain ⟨R,hR⟩ : ∃ R,R = countsL ts := ⟨_,rfl⟩
 rw [← hR]
 have HR0 : Hid ((ts.drop 0).foldl cntStep cnt0 = R) := show _ = R from hR.symm
 clear hR hok
 obtain ⟨z52,s52⟩ := zero_of_info info52
 obtain ⟨z53,s53⟩ := zero_of_info info53
 obtain ⟨l0,hl0⟩ : ∃ l,l = List.replicate 286 0 := ⟨_,rfl⟩
 obtain ⟨m0,hm0⟩ : ∃ l,l = List.replicate 30 0 := ⟨_,rfl⟩
 rw [← hl0] at z52
 rw [← hm0] at z53
 have hl0l : l0.length = 286 := by rw [hl0,List.length_replicate]
 have hm0l : m0.length = 30 := by rw [hm0,List.length_replicate]
 have HL0 := Pal.hid hl0
 have HM0 := Pal.hid hm0
 have s52 := Pal.hid s52
 have s53 := Pal.hid s53
 clear hl0 hm0
 go_enter Tryz.func45,Tryz.ntmps45
 go_wp2_with fail
 have c0 := ((Chg.refl [] w).alloc (.cells (row32 l0) 101)).alloc (.cells (row32 m0) 102)
 have n2 := heap_old (o := .cells (row32 m0) 102) (heap_new w (.cells (row32 l0) 101))
 have n3 := heap_new (w.alloc (.cells (row32 l0) 101)) (.cells (row32 m0) 102)
 rw [World.size_alloc] at n3
 generalize (w.alloc (.cells (row32 l0) 101)).alloc (.cells (row32 m0) 102) = w0 at c0 n2 n3 ⊢
 obtain ⟨B3,hB3⟩ : ∃ B,B = w.heap.size + 1 := ⟨_,rfl⟩
 obtain ⟨B2,hB2⟩ : ∃ B,B = w.heap.size := ⟨_,rfl⟩
 rw [← hB3] at n3 ⊢
 rw [← hB2] at n2 ⊢
 have HB2 := Pal.hid hB2
 have HB3 := Pal.hid hB3
 have h23 : ¬ B2 = B3 := by omega
 have h32 : ¬ B3 = B2 := by omega
 clear hB2 hB3 z52 z53
 have hck := checks_any (.slice ao ts.length cap) (ts.map tz) w0 (by rw [List.length_map,← toksC_tz]; exact HRD.out.keep c0 (by simp)) (by rw [List.length_map]; omega)
 rw [checks_tk HOK.out (by omega)] at hck
 refine hck.mono ?_
 clear hck
 rintro e w1 ⟨rfl,hc1⟩
 have c1 := c0.trans hc1 (by simp)
 have n2 := hc1.heap n2 (by simp)
 have n3 := hc1.heap n3 (by simp)
 have hcell := row_cell (i := 256) n2 (by omega)
 have hfree := free_at (i := 256) n2
 have n2' := row_set n2 256 1
 have n3' := heap_set_far (p := B2) (i := 256) (u := c32 1) n3 h32
 have c2 : Chg [] w (w1.setCell ⟨B2,256,none⟩ (c32 1)) := c1.setCell (.inr (by rw [← HB2.out]; exact Nat.le_refl _)) _
 generalize l0.getD 256 0 = old at hcell
 have n2' := Pal.hid n2'
 have n3' := Pal.hid n3'
 have c2 := Pal.hid c2
 clear hc1 c0 n2 n3 c1
 go_wp2_with fail
 have n2 := n2'.out
 have n3 := n3'.out
 have c2 := c2.out
 rw [show (Value.int .u32 1) = c32 1 from rfl]
 generalize w1.setCell ⟨B2,256,none⟩ (c32 1) = w2 at n2 n3 c2 ⊢
 clear n2' n3' hcell hfree
 refine (lengths_any w2).mono ?_
 rintro e w3 ⟨wv,lv,rfl,P1,P2,rfl,rfl,r1,r2,k1,k2,c3⟩
 have hs2 := lt_heap n2
 have hs3 := lt_heap n3
 have n2 := c3.heap n2 (by simp)
 have n3 := c3.heap n3 (by simp)
 go_wp2_with fail
 refine (distances_any w3).mono ?_
 rintro e w4 ⟨wv,lv,rfl,P3,P4,rfl,rfl,r3,r4,k3,k4,c4⟩
 have n2 := c4.heap n2 (by simp)
 have n3 := c4.heap n3 (by simp)
 have hs4 := c3.size
 have r1 := r1.keep c4 (by simp)
 have r2 := r2.keep c4 (by simp)
 have c24 : Chg [] w w4 := (c2.trans c3 (by simp)).trans c4 (by simp)
 have hP : P1 ∉ [B2,B3] ∧ P2 ∉ [B2,B3] ∧ P3 ∉ [B2,B3] ∧ P4 ∉ [B2,B3] := by simp; omega
 have TR : ∀ w',Chg [B2,B3] w4 w' → Rd w' 1 (.slice (some ⟨P1,0,none⟩) 29 29) 29 (lw.map zn) ∧ Rd w' 1 (.slice (some ⟨P2,0,none⟩) 29 29) 29 (lf.map zn) ∧ Rd w' 1 (.slice (some ⟨P3,0,none⟩) 30 30) 30 (dw.map zn) ∧ Rd w' 1 (.slice (some ⟨P4,0,none⟩) 30 30) 30 (df.map zn) := fun w' hc =>
  ⟨r1.keep hc (fun k hk => by obtain rfl : P1 = k := (by simpa [slBlock] using hk); exact hP.1),
   r2.keep hc (fun k hk => by obtain rfl : P2 = k := (by simpa [slBlock] using hk); exact hP.2.1),
   r3.keep hc (fun k hk => by obtain rfl : P3 = k := (by simpa [slBlock] using hk); exact hP.2.2.1),
   r4.keep hc (fun k hk => by obtain rfl : P4 = k := (by simpa [slBlock] using hk); exact hP.2.2.2)⟩
 have TR := Pal.hid TR
 have hA0 : l0.set 256 1 = cnt0.1 := by rw [HL0.out]; rfl
 have hB0 : m0 = cnt0.2 := HM0.out
 rw [hA0] at n2
 rw [hB0] at n3
 have hb0 : (∀ x ∈ cnt0.1,x ≤ 0 + 1) ∧ ∀ x ∈ cnt0.2,x ≤ 0 + 1 := by decide +kernel
 have hBB : w.heap.size ≤ B2 ∧ w.heap.size ≤ B3 := by rw [HB2.out,HB3.out]; omega
 have hls : cnt0.1.length = 286 ∧ cnt0.2.length = 30 := by decide +kernel
 generalize cnt0 = p0 at n2 n3 hb0 hls HR0
 clear r1 r2 r3 r4 c2 c3 c4 hA0 hB0 hP
 have h29 : lw.length = 29 := rfl
 have h30 : dw.length = 30 := rfl
 rw [h29,h30]
 go_wp2_with fail
 go_loopw [35] (fun iv wr => ∃ (i : Nat) (A B : List Nat),i ≤ ts.length ∧ iv = z64 i ∧ wr.heap[B2]? = some (.cells (row32 A) 101 (0,0)) ∧ wr.heap[B3]? = some (.cells (row32 B) 102 (0,0)) ∧ A.length = 286 ∧ B.length = 30 ∧ Hid (∀ x ∈ A,x ≤ i + 1) ∧ Hid (∀ x ∈ B,x ≤ i + 1) ∧
  Hid ((ts.drop i).foldl cntStep (A,B) = R) ∧ Chg [B2,B3] w4 wr) (fun iv _ => ts.length - (intOf iv).toNat)
 case atStart => exact ⟨0,p0.1,p0.2,Nat.zero_le _,rfl,n2,n3,hls.1,hls.2,hb0.1,hb0.2,HR0,Chg.refl _ _⟩
 case round =>
  obtain ⟨i,A,B,hi,rfl,n2,n3,hAl,hBl,hAb,hBb,HD,hchg⟩ := hrel
  have kw : Chg [] w wr := (c24.trans hchg (fun k hk => .inr (by simp at hk; omega)))
  by_cases hlt : i < ts.length
  ·have hlti : (i : Int) < ts.length := by omega
   obtain ⟨b,off,cb,hv,hmc,hblt,hcell⟩ := HRD.out.at (by rw [length_toksC]; omega)
   simp only [Value.slice.injEq] at hv
   obtain ⟨rfl,_,rfl⟩ := hv
   obtain ⟨c0,c1,c2⟩ := toks_cells hcell hlt
   have c0 := kw.cell c0 (by simp)
   have c1 := kw.cell c1 (by simp)
   have c2 := kw.cell c2 (by simp)
   obtain ⟨t,ht⟩ : ∃ t,t = ts[i] := ⟨_,rfl⟩
   have htok : t.ok := by rw [ht]; exact HOK.out _ (List.getElem_mem hlt)
   have HD : Hid ((ts.drop (i + 1)).foldl cntStep (cntStep (A,B) t) = R) := by
    show _ = _
    rw [ht,← List.foldl_cons,← List.drop_eq_getElem_cons hlt]
    exact HD.out
   rw [← ht] at c0 c1 c2
   have hbl2 : b < wr.heap.size := by have := kw.size; omega
   have hB2l := lt_heap n2
   have hB3l := lt_heap n3
   have hwi : IntKind.i64.wrap ((i : Int) + 1) = ((i + 1 : Nat) : Int) := IntWalk.i64_in _ (by omega)
   obtain ⟨htb,hto⟩ := htok
   clear hcell ht
   by_cases hl0 : t.l = 0
   ·have hl0i : (t.l : Int) = 0 := by omega
    have hst : cntStep (A,B) t = (bump A t.b,B) := by rw [cntStep,if_pos hl0]
    rw [hst] at HD
    have hcA := row_cell (i := t.b) n2 (by omega)
    have hfA := free_at (i := t.b) n2
    obtain ⟨x,hx⟩ : ∃ x,x = A.getD t.b 0 := ⟨_,rfl⟩
    rw [← hx] at hcA
    have hxb : x ≤ i + 1 := by
     rw [hx,List.getD_eq_getElem?_getD,List.getElem?_eq_getElem (by omega)]
     exact hAb.out _ (List.getElem_mem _)
    have hx1 : IntKind.u32.wrap ((x : Int) + 1) = ((x + 1 : Nat) : Int) := by
     simp [IntKind.wrap,IntKind.bits,IntKind.signed]; omega
    have HX := Pal.hid hx
    have hbi : (t.b : Int) < 286 := by omega
    have hbump : A.set t.b (x + 1) = bump A t.b := by rw [bump,hx]
    clear hx hst
    go_wp2_with fail
    have m2 := row_set n2 t.b (x + 1)
    rw [hbump] at m2
    have m3 := heap_set_far (p := B2) (i := t.b) (u := c32 (x + 1 : Nat)) n3 h32
    have cE : Chg [B2,B3] w4 (wr.setCell ⟨B2,t.b,none⟩ (c32 (x + 1 : Nat))) := hchg.setCell (.inl (by simp)) _
    refine ⟨⟨i + 1,bump A t.b,B,by omega,rfl,heap_old m2,heap_old m3,by rw [length_bump]; exact hAl,hBl,bump_le hAb.out,fun y hy => Nat.le_succ_of_le (hBb.out y hy),HD,cE.alloc _⟩,by simp [intOf]; omega⟩
   ·have hl0i : ¬ (t.l : Int) = 0 := by omega
    have hst : cntStep (A,B) t = (bump A (257 + lenS t.l),bump B (disS t.d)) := by rw [cntStep,if_neg hl0]
    rw [hst] at HD
    have hl3 : 3 ≤ t.l ∧ t.l ≤ 258 ∧ 1 ≤ t.d ∧ t.d ≤ 32768 := by omega
    have hS := lenS_le t.l
    have hD := disS_le t.d
    have HS1 := fun w' h1 h2 => symbol_any t.l 28 (.slice (some ⟨P1,0,none⟩) 29 29) (.slice (some ⟨P2,0,none⟩) 29 29) lw lf w' h1 h2 rfl rfl (by show 3 ≤ t.l; omega) (by decide) (by omega)
    have HS2 := fun w' h1 h2 => symbol_any t.d 29 (.slice (some ⟨P3,0,none⟩) 30 30) (.slice (some ⟨P4,0,none⟩) 30 30) dw df w' h1 h2 rfl rfl (by show 1 ≤ t.d; omega) (by decide) (by omega)
    obtain ⟨s,hs⟩ : ∃ s,s = lenS t.l := ⟨_,rfl⟩
    obtain ⟨d,hd⟩ : ∃ d,d = disS t.d := ⟨_,rfl⟩
    have e1 : symDown t.l lf 28 = s := hs.symm
    have e2 : symDown t.d df 29 = d := hd.symm
    rw [e1] at HS1
    rw [e2] at HS2
    rw [← hs] at HD hS
    rw [← hd] at HD hD
    generalize t.l - lf.getD s 0 = f1 at HS1
    generalize lw.getD s 0 = f2 at HS1
    generalize t.d - df.getD d 0 = f3 at HS2
    generalize dw.getD d 0 = f4 at HS2
    have HS1 := Pal.hid HS1
    have HS2 := Pal.hid HS2
    obtain ⟨q,hq⟩ : ∃ q,q = 257 + s := ⟨_,rfl⟩
    rw [← hq] at HD
    have hwq : IntKind.i64.wrap (257 + (s : Int)) = (q : Int) := by
     rw [show 257 + (s : Int) = (q : Int) by omega]
     exact IntWalk.i64_in _ (by omega)
    have hqi : (q : Int) < 286 := by omega
    have hdi : (d : Int) < 30 := by omega
    have hcA := row_cell (i := q) n2 (by omega)
    have hfA := free_at (i := q) n2
    have hcB := row_cell (i := d) n3 (by omega)
    have hfB := free_at (i := d) n3
    obtain ⟨x,hx⟩ : ∃ x,x = A.getD q 0 := ⟨_,rfl⟩
    obtain ⟨y,hy⟩ : ∃ y,y = B.getD d 0 := ⟨_,rfl⟩
    rw [← hx] at hcA
    rw [← hy] at hcB
    have hxb : x ≤ i + 1 := by
     rw [hx,List.getD_eq_getElem?_getD,List.getElem?_eq_getElem (by omega)]
     exact hAb.out _ (List.getElem_mem _)
    have hyb : y ≤ i + 1 := by
     rw [hy,List.getD_eq_getElem?_getD,List.getElem?_eq_getElem (by omega)]
     exact hBb.out _ (List.getElem_mem _)
    have hx1 : IntKind.u32.wrap ((x : Int) + 1) = ((x + 1 : Nat) : Int) := by
     simp [IntKind.wrap,IntKind.bits,IntKind.signed]; omega
    have hy1 : IntKind.u32.wrap ((y : Int) + 1) = ((y + 1 : Nat) : Int) := by
     simp [IntKind.wrap,IntKind.bits,IntKind.signed]; omega
    have hbA : A.set q (x + 1) = bump A q := by rw [bump,hx]
    have hbB : B.set d (y + 1) = bump B d := by rw [bump,hy]
    have e1 := e1
    clear hx hy hst hs hd e1 e2 hq
    go_upto_region 12 with fail
    have cW5 := hchg.alloc (.cells (tkc t) 60)
    have m2 := heap_old (o := .cells (tkc t) 60) n2
    have m3 := heap_old (o := .cells (tkc t) 60) n3
    have mt := heap_new wr (.cells (tkc t) 60)
    have cA : Chg [] wr (wr.alloc (.cells (tkc t) 60)) := (Chg.refl _ _).alloc _
    have hcA := cA.cell hcA (by simp)
    have hcB := cA.cell hcB (by simp)
    have hfA : (wr.alloc (.cells (tkc t) 60)).frozen? ⟨B2,q,none⟩ = false := (cA.frozen hB2l (by simp)).trans hfA
    have hfB : (wr.alloc (.cells (tkc t) 60)).frozen? ⟨B3,d,none⟩ = false := (cA.frozen hB3l (by simp)).trans hfB
    have hs5 := cA.size
    generalize hw5 : wr.alloc (.cells #[.int .u8 (t.b : Nat),.int .i64 (t.l : Nat),.int .i64 (t.d : Nat)] 60) = w5 at cW5 m2 m3 mt hcA hcB hfA hfB hs5 ⊢
    generalize wr.heap.size = B10 at mt ⊢
    have x1 : w5.cell? ⟨B10,1,none⟩ = some (z64 t.l) := (cell_at (i := 1) mt).trans rfl
    have x2 : w5.cell? ⟨B10,2,none⟩ = some (z64 t.d) := (cell_at (i := 2) mt).trans rfl
    obtain ⟨t1,t2,t3,t4⟩ := TR.out w5 cW5
    clear hw5 cA mt c0 c1 c2
    go_wp2_with fail
    refine (HS1.out w5 t1 t2).mono ?_
    rintro e w6 ⟨rfl,k6,rfl⟩
    obtain ⟨_,_,t3,t4⟩ := TR.out (w5.drewN k6) (cW5.drewN _)
    go_wp2_with fail
    refine (HS2.out _ t3 t4).mono ?_
    rintro e w7 ⟨rfl,k7,rfl⟩
    clear t1 t2 t3 t4 x1 x2
    go_wp2_with fail
    have y2 : (w5.drewN (k6 + k7)).heap[B2]? = some (.cells (row32 A) 101 (0,0)) := m2
    have y3 : (w5.drewN (k6 + k7)).heap[B3]? = some (.cells (row32 B) 102 (0,0)) := m3
    have g2 := heap_set_far (p := B3) (i := d) (u := c32 (y + 1 : Nat)) (row_set y2 q (x + 1)) h23
    rw [hbA] at g2
    have g3 := row_set (heap_set_far (p := B2) (i := q) (u := c32 (x + 1 : Nat)) y3 h32) d (y + 1)
    rw [hbB] at g3
    have cE : Chg [B2,B3] w4 (((w5.drewN (k6 + k7)).setCell ⟨B2,q,none⟩ (c32 (x + 1 : Nat))).setCell ⟨B3,d,none⟩ (c32 (y + 1 : Nat))) := ((cW5.drewN _).setCell (p := ⟨B2,q,none⟩) (.inl (by simp)) _).setCell (p := ⟨B3,d,none⟩) (.inl (by simp)) _
    refine ⟨⟨i + 1,bump A q,bump B d,by omega,rfl,g2,g3,by rw [length_bump]; exact hAl,by rw [length_bump]; exact hBl,bump_le hAb.out,bump_le hBb.out,HD,cE⟩,by simp [intOf]; omega⟩
  ·obtain rfl : i = ts.length := by omega
   have hRe : Hid ((A,B) = R) := by
    show _ = _
    have := HD.out
    rwa [List.drop_length] at this
   clear HD
   go_wp2_with fail
   have n2' : wr.drew.heap[B2]? = some (.cells (row32 A) 101 (0,0)) := n2
   have n3' : wr.drew.heap[B3]? = some (.cells (row32 B) 102 (0,0)) := n3
   have kd : Chg [] w wr.drew := kw.drew
   refine wp_region_held_drew (S := fun w' => w'.heap[B2]? = some (.cells (row32 A) 101 (0,0)) ∧ w'.heap[B3]? = some (.cells (row32 B) 102 (0,0))) (by kernel_rfl) ⟨n2',n3'⟩ (fun hHeld => ?_)
   generalize wr.drew = W0 at kd n2' n3' hHeld ⊢
   have sA : (Tryz.prog.info? 101).map (·.size) = some (row32 A).size := by rw [size_row32,hAl]; exact s52.out
   have sB : (Tryz.prog.info? 102).map (·.size) = some (row32 B).size := by rw [size_row32,hBl]; exact s53.out
   refine Pal.held_take (i := 0) (v := .agg (row32 A)) rfl (by kernel_rfl) (by kernel_rfl) (by kernel_rfl) (fun _ _ _ h => h) (Or.inl ⟨by rfl,fun w' hw' => exec_load_row 101 _ rfl B2 rfl 101 (row32 A) (0,0) _ hw'.1 under52 rfl sA⟩) hHeld ?_
   (try simp only [Act.put,Pal.sA,Pal.sZ,Pal.sS])
   refine Pal.held_take (i := 1) (v := .agg (row32 B)) rfl (by kernel_rfl) (by kernel_rfl) (by kernel_rfl) (fun _ _ _ h => h) (Or.inl ⟨by rfl,fun w' hw' => exec_load_row 102 _ rfl B3 rfl 102 (row32 B) (0,0) _ hw'.2 under53 rfl sB⟩) hHeld ?_
   (try simp only [Act.put,Pal.sA,Pal.sZ,Pal.sS])
   refine Pal.held_one (i := 2) rfl (by kernel_rfl) (by rfl) (fun K hK => ?_)
   refine wp_store_row 101 _ _ rfl B2 (row32 A) rfl rfl 101 (row32 A) n2' sA rfl (oneCell_row32 A) ?_
   have q2 := setRow_heap W0 B2 _ (row32 A) _ _ n2'
   have q3 := (setRow_other W0 B2 B3 (row32 A) h32).trans n3'
   have kd2 := kd.setRow (g := B2) (.inr hBB.1) (row32 A)
   generalize W0.setRow B2 (row32 A) = W1 at q2 q3 kd2 ⊢
   have hHeld := And.intro q2 q3
   refine hK.out _ _ hHeld ?_
   clear hK K
   refine Pal.held_one (i := 3) rfl (by kernel_rfl) (by rfl) (fun K hK => ?_)
   refine wp_store_row 102 _ _ rfl B3 (row32 B) rfl rfl 102 (row32 B) q3 sB rfl (oneCell_row32 B) ?_
   have p3 := setRow_heap W1 B3 _ (row32 B) _ _ q3
   have p2 := (setRow_other W1 B3 B2 (row32 B) h23).trans q2
   have kd3 := kd2.setRow (g := B3) (.inr hBB.2) (row32 B)
   generalize W1.setRow B3 (row32 B) = W2 at p2 p3 kd3 ⊢
   have hHeld := And.intro p2 p3
   refine hK.out _ _ hHeld ?_
   clear hK K
   refine Pal.hT 4 ?_ rfl (by kernel_rfl) (fun _ _ _ h=>h) (.inl ⟨by rfl,?_⟩) hHeld ?_
   rotate_left
   ·(intro w hSw; (try dsimp only at hSw); go_simp)
    first | done | with_reducible rfl
   (try simp only [Act.put,Pal.sA,Pal.sZ,Pal.sS])
   refine wpAnyH_done (by kernel_rfl) ?_ _
   go_wp2_with fail
   refine bodyPost_ret (ret_cct resCounts _ _ B2 B3 101 102 (row32 A) (row32 B) (0,0) (0,0) _ _ rfl p2 under52 rfl sA rfl p3 under53 rfl sB rfl) rfl ?_
   refine ⟨?_,kd3⟩
   rw [← hRe.out]
   rfl
end Go.Proofs.YtiijhaajaglabaaGreat.Lz
