/- Lengths of least cost: Max; coins in memory; the way without coins. -/
import Derived.Test.YtiijhaajaglabaaPlainB
import Derived.Test.YtiijhaajaglabaaSortCE
set_option linter.unusedVariables false
namespace Go.Proofs.Ytiijhaajaglabaa
open Go.RowKit Pal Pal.So Pal.Hp
set_option maxHeartbeats 2000000 in
theorem max_any {w : World} {v : Value} {l : List Nat} (hrd : Rd w 1 v l.length (zL l)) (hl : l.length ≤ 1000000) (h0 : 0 < l.length) :
    Calls Try.prog 50 #[v] w fun e w' => ∃ m : Nat, e = .returned (z64 m) ∧ (∀ x ∈ l, x ≤ m) ∧ m ∈ l ∧ w' = w := by
  have HRD := Pal.hid hrd
  obtain ⟨b, off, cap, rfl, -, -, hcell⟩ := hrd.at (by simp; exact h0)
  have HC : Hid (∀ j, (h : j < l.length) → w.cell? ⟨b, off + j, none⟩ = some (z64 (l[j] : Nat))) := Pal.hid fun j h => hcell j _ (by simp [h])
  have hc0 := HC.out 0 h0
  have HM0 := Pal.hid (List.getElem_mem h0)
  have HT0 : Hid (∀ x ∈ l.take 1, x ≤ l[0]) := Pal.hid (by
    intro x hx
    rw [show (1 : Nat) = 0 + 1 from rfl, List.take_succ_eq_append_getElem h0] at hx
    simp at hx
    omega)
  generalize l[0] = m0 at *
  have hl1 : ¬ (l.length : Int) < 1 := by omega
  have hli : (0 : Int) < l.length := by omega
  rw [Nat.add_zero] at hc0
  clear hcell hrd
  go_enter Try.func50, Try.ntmps50
  go_wp2_with fail
  go_loopw [3, 4] (fun mv iv wr => ∃ (i m : Nat), iv = z64 i ∧ mv = z64 m ∧ Hid (i ≤ l.length) ∧ Hid (∀ x ∈ l.take i, x ≤ m) ∧ Hid (m ∈ l) ∧ wr = w) (fun _ iv _ => l.length - (intOf iv).toNat)
  case atStart => exact ⟨1, m0, rfl, rfl, Pal.hid (by omega), HT0, HM0, rfl⟩
  case round =>
    obtain ⟨i, m, rfl, rfl, HI, HT, HM, rfl⟩ := hrel
    have hi := HI.out
    by_cases hlt : i < l.length
    · have hlti : (i : Int) < l.length := by omega
      have hx := HC.out i hlt
      have htk := List.take_succ_eq_append_getElem hlt
      have HX := Pal.hid (List.getElem_mem hlt)
      generalize l[i] = x at *
      have HTK := Pal.hid htk
      have hwi : IntKind.i64.wrap ((i : Int) + 1) = ((i + 1 : Nat) : Int) := IntWalk.i64_in _ (by omega)
      clear htk hc0
      by_cases hmx : m < x
      · have e1 : max (m : Int) (x : Int) = (x : Int) := Int.max_eq_right (by omega)
        have HF : Hid (∀ y ∈ l.take (i + 1), y ≤ x) := Pal.hid (by
          intro y hy
          rw [HTK.out] at hy
          rcases List.mem_append.1 hy with hy | hy
          · have := HT.out y hy; omega
          · simp at hy; omega)
        go_wp2_with fail
        exact ⟨⟨i + 1, x, rfl, by simp, Pal.hid (by omega), HF, HX, trivial⟩, by simp [intOf]; omega⟩
      · have e1 : max (m : Int) (x : Int) = (m : Int) := Int.max_eq_left (by omega)
        have HF : Hid (∀ y ∈ l.take (i + 1), y ≤ m) := Pal.hid (by
          intro y hy
          rw [HTK.out] at hy
          rcases List.mem_append.1 hy with hy | hy
          · exact HT.out y hy
          · simp at hy; omega)
        go_wp2_with fail
        exact ⟨⟨i + 1, m, rfl, by simp, Pal.hid (by omega), HF, HM, trivial⟩, by simp [intOf]; omega⟩
    · have hie : i = l.length := by omega
      have hlti : ¬ (i : Int) < l.length := by omega
      have HF : Hid (∀ x ∈ l, x ≤ m) := Pal.hid (by have := HT.out; rw [hie, List.take_length] at this; exact this)
      clear hie hc0
      go_wp2_with fail
      go_ret
      exact ⟨m, rfl, HF.out, HM.out, rfl⟩
/-! ### Coins -/
/-- Coins with their symbols, as cells. -/
def encK (D : List (Coin × List Nat)) : List Value := D.flatMap fun x => [b64 x.1.n, .slice x.1.ao x.1.len x.1.cap]
theorem encK_length (D : List (Coin × List Nat)) : (encK D).length = D.length * 2 := by
  induction D with
  | nil => rfl
  | cons x D ih =>
    rw [encK, List.flatMap_cons, List.length_append, ← encK, ih]
    simp
    omega
theorem encK_append (D E : List (Coin × List Nat)) : encK (D ++ E) = encK D ++ encK E := by simp [encK]
/-- The coins' symbols in memory, in none of the blocks X. -/
def Ck (w : World) (X : List Nat) (D : List (Coin × List Nat)) : Prop := ∀ x ∈ D, Rd w 1 (.slice x.1.ao x.1.len x.1.cap) x.1.len (zL x.2) ∧ ∀ k, slBlock (.slice x.1.ao x.1.len x.1.cap) = some k → k ∉ X ∧ k < w.heap.size
theorem Ck.keep {w w' : World} {X S : List Nat} {D : List (Coin × List Nat)} (h : Ck w X D) (hc : Chg S w w') (hS : ∀ k ∈ S, k ∈ X) : Ck w' X D := fun x hx => by
  obtain ⟨h1, h2⟩ := h x hx
  exact ⟨h1.keep hc (fun k hk hm => (h2 k hk).1 (hS k hm)), fun k hk => ⟨(h2 k hk).1, Nat.lt_of_lt_of_le (h2 k hk).2 hc.size⟩⟩
theorem Ck.mono {w : World} {X Y : List Nat} {D : List (Coin × List Nat)} (h : Ck w X D) (hY : ∀ k ∈ Y, k ∈ X ∨ w.heap.size ≤ k) : Ck w Y D := fun x hx => by
  obtain ⟨h1, h2⟩ := h x hx
  exact ⟨h1, fun k hk => ⟨fun hm => (hY k hm).elim (h2 k hk).1 (fun hl => by have := (h2 k hk).2; omega), (h2 k hk).2⟩⟩
theorem Ck.move {w w' : World} {X X' S : List Nat} {D : List (Coin × List Nat)} (h : Ck w X D) (hc : Chg S w w') (h0 : ∀ k ∈ S, k ∈ X) (h1 : ∀ k ∈ X', k ∈ X ∨ w.heap.size ≤ k) : Ck w' X' D := by
  have a : Ck w (X ++ X') D := h.mono fun k hk => by
    rcases List.mem_append.1 hk with hk | hk
    · exact .inl hk
    · exact h1 k hk
  have b : Ck w' (X ++ X') D := a.keep hc fun k hk => List.mem_append_left _ (h0 k hk)
  exact b.mono fun k hk => .inl (List.mem_append_right _ hk)
/-- What coins are worth, and their symbols. -/
def conK (D : List (Coin × List Nat)) : List (Nat × List Nat) := D.map fun x => (x.1.n, x.2)
def baseK (ts : List Tr) : List (Nat × List Nat) := ts.map fun t => (t.cnt, t.syms)
/-- While Lengths lays out its coins. -/
structure Lf (W w : World) (G : Nat) (n cap : Nat) (l : List Nat) (bv : Value) (D : List (Coin × List Nat)) : Prop where
  lown : Own w 3 1 (.slice (some ⟨G, 0, none⟩) n cap) n (zL l)
  own : Own w 88 2 bv D.length (encK D)
  ck : Ck w (G :: bv.ownBlock.toList) D
  ng : W.heap.size ≤ G
  bg : bv.ownBlock ≠ some G
  nb : New W bv
  chg : Chg [] W w
theorem slCoin : SlT Try.prog 86 88 2 32 := slT_of (z := .agg #[.int .u64 0, .slice none 0 0]) (by kernel_rfl) (by kernel_rfl) rfl (by decide)
/-- A coin more. -/
theorem Lf.more {W w w1 w2 w3 : World} {G n cap N s m : Nat} {l : List Nat} {bv v' : Value} {D : List (Coin × List Nat)} (h : Lf W w G n cap l bv D)
    (e1 : w1 = w.alloc (.cells #[z64 s] 3)) (hm : w.heap.size = m) (e2 : w2 = w1.alloc (.cells #[b64 N, .slice (some ⟨m, 0, none⟩) 1 1] 88))
    (ho : Own w3 88 2 v' (D.length + 1) (encK D ++ [b64 N, .slice (some ⟨m, 0, none⟩) 1 1])) (hc : Chg bv.ownBlock.toList w2 w3) (hat : v'.ownBlock = bv.ownBlock ∨ v'.ownBlock = some w2.heap.size) :
    Lf W w3 G n cap l v' (D ++ [(⟨N, some ⟨m, 0, none⟩, 1, 1⟩, [s])]) := by
  have c1 : Chg [] w w1 := by rw [e1]; exact (Chg.refl _ _).alloc _
  have c2 : Chg [] w w2 := by rw [e2]; exact c1.alloc _
  have hs1 : w1.heap.size = m + 1 := by rw [e1, ← hm]; simp
  have hs2 : w2.heap.size = m + 2 := by rw [e2]; simp [hs1]
  have hG0 : G < w.heap.size := own_lt h.lown rfl
  have c3 : Chg bv.ownBlock.toList w w3 := (c2.mono (T := bv.ownBlock.toList) (by simp)).trans hc (fun k hk => .inl hk)
  have hbl : ∀ k, bv.ownBlock = some k → k < w.heap.size := fun k hk => own_lt h.own hk
  have hw1 : w1.heap[m]? = some (.cells #[z64 s] 3 (0, 0)) := by rw [e1, ← hm]; exact heap_new _ _
  have hw2 : w2.heap[m]? = some (.cells #[z64 s] 3 (0, 0)) := by rw [e2]; exact heap_old hw1
  have hw3 := hc.heap hw2 (by simp; exact fun e => by have := hbl m e; omega)
  have hv : ∀ k, v'.ownBlock = some k → bv.ownBlock = some k ∨ k = m + 2 := fun k hk => by
    rcases hat with e | e
    · rw [e] at hk; exact .inl hk
    · rw [e, hs2] at hk; right; simpa using hk.symm
  refine ⟨?_, ?_, ?_, h.ng, ?_, ?_, ?_⟩
  · exact c3.owns h.lown (fun k hk => by simp [Value.ownBlock] at hk; subst hk; simp; exact h.bg)
  · rw [List.length_append, encK_append]
    exact ho
  · intro x hx
    rcases List.mem_append.1 hx with hx | hx
    · refine h.ck.move c3 (fun k hk => by simp at hk ⊢; exact .inr hk) (fun k hk => ?_) x hx
      simp at hk
      rcases hk with rfl | hk
      · left; simp
      · rcases hv k hk with h5 | h5
        · left; simp [h5]
        · right; omega
    · obtain rfl : x = _ := by simpa using hx
      refine ⟨Rd.one (m := 1) (c := 1) (sz := 1) hw3 rfl, fun k hk => ?_⟩
      obtain rfl : m = k := by simpa [slBlock] using hk
      refine ⟨fun hk2 => ?_, lt_heap hw3⟩
      simp at hk2
      rcases hk2 with hk2 | hk2
      · omega
      · rcases hv m hk2 with h5 | h5
        · have := hbl m h5; omega
        · omega
  · intro e
    rcases hv G e with h5 | h5
    · exact h.bg h5
    · omega
  · intro k hk
    rcases hv k hk with h5 | h5
    · exact h.nb k h5
    · have := h.chg.size; omega
  · exact h.chg.trans c3 (fun k hk => .inr (h.nb k (by simpa using hk)))
set_option maxRecDepth 100000 in
set_option maxHeartbeats 4000000 in
theorem len_easy {w : World} {v : Value} {cs : List Nat} {most : Nat} (hm : 1 ≤ most ∧ most ≤ 15) (hrd : Rd w 1 v cs.length (cs.map b32)) (hcs : ∀ n ∈ cs, n < 4294967296) (hlen : cs.length ≤ 320) (hsome : (leavesAt 0 cs).length ≤ 2 ^ most)
    (hez : ∀ l, Huff cs l → l.length = cs.length → ∀ x ∈ l, x ≤ most) :
    Calls Try.prog 24 #[z64 most, v] w fun e w' => ∃ G l, e = .returned (.tuple #[.slice (some ⟨G, 0, none⟩) cs.length cs.length, z64 0]) ∧ Huff cs l ∧ l.length = cs.length ∧ Own w' 3 1 (.slice (some ⟨G, 0, none⟩) cs.length cs.length) cs.length (zL l) ∧ w.heap.size ≤ G ∧ Chg [] w w' := by
  have HRD := Pal.hid hrd
  have HCS := Pal.hid hcs
  have HEZ := Pal.hid hez
  have HSM := Pal.hid hsome
  have HPL := Pal.hid (plain_any v cs w hrd hcs hlen)
  obtain ⟨ao, cap, rfl, -, -, -, -⟩ := hrd
  have h1 : ¬ (most : Int) < 1 := by omega
  have h2 : ¬ (15 : Int) < (most : Int) := by omega
  clear hcs hez hsome
  go_enter Try.func24, Try.ntmps24
  go_wp2_with fail
  refine HPL.out.mono ?_
  rintro e w2 ⟨G, l, rfl, hhf, hll, ho2, hn2, hc2⟩
  have HLF : Hid (Lf w w2 G cs.length cs.length l (.slice none 0 0) []) := Pal.hid ⟨ho2, own_nil _ _ _, fun x hx => by simp at hx, hn2, by simp [Value.ownBlock], New.nil _, hc2⟩
  have HHF := Pal.hid hhf
  have HLL := Pal.hid hll
  clear hhf hll ho2 hn2 hc2
  go_wp2_with fail
  go_loopw [8, 35] (fun bv iv wr => ∃ (i : Nat) (D : List (Coin × List Nat)), iv = z64 i ∧ Hid (i ≤ cs.length) ∧ Hid (conK D = baseK (leavesAt 0 (cs.take i))) ∧ Hid (Lf w wr G cs.length cs.length l bv D)) (fun _ iv _ => cs.length - (intOf iv).toNat)
  case atStart => exact ⟨0, [], rfl, Pal.hid (Nat.zero_le _), Pal.hid (by simp [leavesAt, conK, baseK]), HLF⟩
  case round =>
    obtain ⟨i, D, rfl, HI, HD, HP⟩ := hrel
    have hi := HI.out
    by_cases hlt : i < cs.length
    · have hlti : (i : Int) < cs.length := by omega
      obtain ⟨b, off, cap', hv, -, -, hcell⟩ := HRD.out.at (by simp; omega)
      obtain ⟨rfl, rfl⟩ : ao = some ⟨b, off, none⟩ ∧ cap' = cap := by simpa [eq_comm] using hv
      clear hv
      have hx := HP.out.chg.cell (hcell i _ (by rw [List.getElem?_map, List.getElem?_eq_getElem hlt]; rfl)) (by simp)
      have hxb := HCS.out _ (List.getElem_mem hlt)
      have htk := Pal.hid (List.take_add_one (l := cs) (i := i))
      rw [List.getElem?_eq_getElem hlt] at htk
      generalize cs[i] = N at hx hxb htk
      clear hcell
      have hLV : Hid (leavesAt 0 (cs.take (i + 1)) = leavesAt 0 (cs.take i) ++ if 0 < N then [.leaf N i] else []) := Pal.hid (by
        rw [htk.out, Option.toList_some, leavesAt_snoc, List.length_take, Nat.min_eq_left (by omega), Nat.zero_add])
      have hwi : IntKind.i64.wrap ((i : Int) + 1) = ((i + 1 : Nat) : Int) := IntWalk.i64_in _ (by omega)
      by_cases hN : 0 < N
      · have hNi : (0 : Int) < N := by omega
        have hwN : IntKind.u64.wrap (N : Int) = (N : Int) := by rw [wrap_u64, Nat.mod_eq_of_lt (by omega)]
        have HDL : Hid (D.length ≤ 320) := Pal.hid (by
          have h5 := congrArg List.length HD.out
          have h6 := length_leavesAt (cs.take i) 0
          simp only [conK, baseK, List.length_map] at h5
          rw [List.length_take] at h6
          omega)
        obtain ⟨ta, tc, rfl⟩ := own_slice HP.out.own
        have HOWN := Pal.hid HP.out.own
        have hb1 : (D.length + 1) * 32 ≤ 140737488355328 := by have := HDL.out; omega
        have hb2 : D.length + 1 ≤ maxLen := by have := HDL.out; unfold maxLen; omega
        have HR2 : Hid (Rd ((wr.alloc (.cells #[z64 i] 3)).alloc (.cells #[b64 N, .slice (some ⟨wr.heap.size, 0, none⟩) 1 1] 88)) 2 (.slice (some ⟨wr.heap.size + 1, 0, none⟩) 1 1) 1 [b64 N, .slice (some ⟨wr.heap.size, 0, none⟩) 1 1]) := Pal.hid (by
          have h7 := Rd.one (m := 1) (c := 1) (sz := 2) (heap_new (wr.alloc (.cells #[z64 i] 3)) (.cells #[b64 N, .slice (some ⟨wr.heap.size, 0, none⟩) 1 1] 88)) rfl
          rw [show (wr.alloc (.cells #[z64 i] 3)).heap.size = wr.heap.size + 1 by simp] at h7
          exact h7)
        go_wp2_with (at_builtin; refine wpList_app (v := .slice ta D.length tc) slCoin rfl _ _ rfl rfl rfl (World.ownsRow.alloc (World.ownsRow.alloc HOWN.out _) _) HR2.out (by intro u hu; simp at hu; rcases hu with rfl | rfl <;> rfl) hb1 hb2 ?_)
        intro v3 w3 own3 chg3 hat3
        have HM := Pal.hid (HP.out.more rfl rfl rfl own3 chg3 (by rw [show ((wr.alloc (.cells #[z64 i] 3)).alloc (.cells #[b64 N, .slice (some ⟨wr.heap.size, 0, none⟩) 1 1] 88)).heap.size = wr.heap.size + 1 + 1 by simp]; exact hat3))
        have HFF : Hid (conK (D ++ [(⟨N, some ⟨wr.heap.size, 0, none⟩, 1, 1⟩, [i])]) = baseK (leavesAt 0 (cs.take (i + 1)))) := Pal.hid (by
          rw [hLV.out, if_pos hN, baseK, List.map_append, ← baseK, ← HD.out, conK, List.map_append]
          rfl)
        obtain ⟨a3, c3, rfl⟩ := own_slice own3
        clear own3 chg3 hat3 hb1 hb2
        go_wp2_with fail
        exact ⟨⟨i + 1, _, rfl, Pal.hid (by omega), HFF, HM⟩, by simp [intOf]; omega⟩
      · have hN0 : N = 0 := by omega
        have HFF : Hid (conK D = baseK (leavesAt 0 (cs.take (i + 1)))) := Pal.hid (by
          rw [hLV.out, if_neg hN, List.append_nil]
          exact HD.out)
        have hNi : ¬ (0 : Int) < N := by omega
        go_wp2_with fail
        exact ⟨⟨i + 1, D, rfl, Pal.hid (by omega), HFF, HP⟩, by simp [intOf]; omega⟩
    · have hie : i = cs.length := by omega
      have HFF : Hid (conK D = baseK (leavesAt 0 cs)) := Pal.hid (by have := HD.out; rw [hie, List.take_length] at this; exact this)
      have hlti : ¬ (i : Int) < cs.length := by omega
      have hDl : D.length = (leavesAt 0 cs).length := by
        have h5 := congrArg List.length HFF.out
        simpa only [conK, baseK, List.length_map] using h5
      have HDL := Pal.hid hDl
      obtain ⟨ta, tc, rfl⟩ := own_slice HP.out.own
      obtain ⟨T, hT⟩ : ∃ T, T = 2 ^ most := ⟨_, rfl⟩
      have hTi : (2 : Int) ^ most = (T : Int) := by rw [hT]; simp
      have hTle : T ≤ 32768 := by rw [hT]; exact Nat.pow_le_pow_right (by omega) hm.2
      have hwT : IntKind.i64.wrap ((T : Int)) = (T : Int) := IntWalk.i64_in _ (by omega)
      have hover : ¬ (T : Int) < D.length := by have := HSM.out; omega
      have hm0 : ¬ (most : Int) < 0 := by omega
      have hm64 : (most : Int) < 64 := by omega
      clear hT hDl hie hi hlt
      have HRT := Pal.hid (⟨HHF.out, HLL.out, HP.out.lown, HP.out.ng, HP.out.chg⟩ : Huff cs l ∧ l.length = cs.length ∧ Own wr 3 1 (.slice (some ⟨G, 0, none⟩) cs.length cs.length) cs.length (zL l) ∧ w.heap.size ≤ G ∧ Chg [] w wr)
      rcases Nat.eq_zero_or_pos D.length with hd0 | hd0
      · rw [hd0] at hover
        have hd1 : ((D.length : Int) == 0) = true := by simp [hd0]
        have hd2 : (D.length : Int) = 0 := by omega
        clear hd0
        go_wp2_with fail
        go_ret2
        first | exact ⟨G, l, rfl, HRT.out.1, HRT.out.2.1, HRT.out.2.2.1, HRT.out.2.2.2.1, HRT.out.2.2.2.2⟩ | exact ⟨G, rfl, l, HRT.out.1, HRT.out.2.1, HRT.out.2.2.1, HRT.out.2.2.2.1, HRT.out.2.2.2.2⟩
      · have hd1 : ((D.length : Int) == 0) = false := beq_eq_false_iff_ne.2 (by omega)
        have hd2 : ¬ (D.length : Int) = 0 := by omega
        have hc0 : 0 < l.length := by
          have h5 := length_leavesAt cs 0
          have h6 := HDL.out
          have h7 := HLL.out
          omega
        have HMX := Pal.hid (max_any (w := wr) (v := .slice (some ⟨G, 0, none⟩) cs.length cs.length) (l := l) (by rw [HLL.out]; exact HP.out.lown.rd) (by rw [HLL.out]; omega) hc0)
        clear hd0 hc0
        go_wp2_with fail
        refine HMX.out.mono ?_
        rintro e w5 ⟨m, rfl, -, hm5, rfl⟩
        have hmi : (m : Int) ≤ most := by have := HEZ.out l HHF.out HLL.out m hm5; omega
        clear hm5
        go_wp2_with fail
        go_ret2
        first | exact ⟨G, l, rfl, HRT.out.1, HRT.out.2.1, HRT.out.2.2.1, HRT.out.2.2.2.1, HRT.out.2.2.2.2⟩ | exact ⟨G, rfl, l, HRT.out.1, HRT.out.2.1, HRT.out.2.2.1, HRT.out.2.2.2.1, HRT.out.2.2.2.2⟩
end Go.Proofs.Ytiijhaajaglabaa
