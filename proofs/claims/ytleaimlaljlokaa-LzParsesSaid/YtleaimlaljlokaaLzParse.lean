/- Contracts over lz: the tokens of bytes. -/
import Derived.Test.YtleaimlaljlokaaLzNext
set_option linter.unusedVariables false
namespace Go.Proofs.Ytleaimlaljlokaa
open Go.RowKit Pal

/-! ### plain: the tokens, one behind another -/
theorem tokAt_ok (b : List Nat) (ahead : Bool) (a : Nat) (h : a < b.length) (hb : ∀ x ∈ b, x < 256) : (tokAt b ahead a).ok ∧ (tokAt b ahead a).l ≤ b.length - a ∧ (tokAt b ahead a).d ≤ a := by
  have hx := getD_bytes hb a
  unfold tokAt
  rcases longestL_ok b a with h1 | ⟨h1, h2, h3, h4, h5, h6, h7⟩
  · rw [h1]
    exact ⟨⟨hx, .inl ⟨rfl, rfl⟩⟩, Nat.zero_le _, Nat.zero_le _⟩
  · dsimp only
    rw [if_neg (by omega)]
    split
    · exact ⟨⟨hx, .inl ⟨rfl, rfl⟩⟩, Nat.zero_le _, Nat.zero_le _⟩
    · exact ⟨⟨by rw [h1]; omega, .inr ⟨h1, h2, h3, h5, h6⟩⟩, h4, h7⟩

theorem parseFrom_fuel (b : List Nat) (ahead : Bool) : ∀ f a, b.length - a ≤ f → parseFrom b ahead f a = parseFrom b ahead (b.length - a) a
  | 0, a, h => by rw [show b.length - a = 0 by omega]
  | f + 1, a, h => by
    by_cases hl : b.length ≤ a
    · rw [show b.length - a = 0 by omega]
      show parseFrom b ahead (f + 1) a = []
      rw [parseFrom, if_pos hl]
    · obtain ⟨k, hk⟩ : ∃ k, b.length - a = k + 1 := ⟨b.length - a - 1, by omega⟩
      rw [hk, parseFrom, parseFrom, if_neg hl, if_neg hl, parseFrom_fuel b ahead f _ (by omega), parseFrom_fuel b ahead k _ (by omega)]

/-- The tokens from a place on. -/
def parseAt (b : List Nat) (ahead : Bool) (a : Nat) : List Tk := parseFrom b ahead (b.length - a) a
theorem parseAt_end {b : List Nat} {ahead : Bool} {a : Nat} (h : b.length ≤ a) : parseAt b ahead a = [] := by
  unfold parseAt
  rw [show b.length - a = 0 by omega]
  rfl
theorem parseAt_step {b : List Nat} {ahead : Bool} {a : Nat} (h : a < b.length) : parseAt b ahead a = tokAt b ahead a :: parseAt b ahead (a + max 1 (tokAt b ahead a).l) := by
  unfold parseAt
  obtain ⟨k, hk⟩ : ∃ k, b.length - a = k + 1 := ⟨b.length - a - 1, by omega⟩
  rw [hk, parseFrom, if_neg (by omega), parseFrom_fuel b ahead k _ (by omega)]
theorem parseL_at (b : List Nat) (ahead : Bool) : parseL b ahead = parseAt b ahead 0 := rfl

theorem parseFrom_length (b : List Nat) (ahead : Bool) : ∀ f a, (parseFrom b ahead f a).length ≤ f
  | 0, _ => Nat.le_refl _
  | f + 1, a => by
    rw [parseFrom]
    split
    · simp
    · simp only [List.length_cons]
      have := parseFrom_length b ahead f (a + max 1 (tokAt b ahead a).l)
      omega

/-- The cells of tokens. -/
def toksC (ts : List Tk) : List Value := ts.flatMap fun t => [b8 t.b, z64 t.l, z64 t.d]
theorem toksC_snoc (ts : List Tk) (t : Tk) : toksC (ts ++ [t]) = toksC ts ++ [b8 t.b, z64 t.l, z64 t.d] := by simp [toksC]
theorem length_toksC (ts : List Tk) : (toksC ts).length = ts.length * 3 := by
  induction ts with
  | nil => rfl
  | cons t ts ih => simp [toksC] at ih ⊢; omega
theorem toksC_at : ∀ (ts : List Tk) (i : Nat) (h : i < ts.length), (toksC ts)[3 * i]? = some (b8 ts[i].b) ∧ (toksC ts)[3 * i + 1]? = some (z64 ts[i].l) ∧ (toksC ts)[3 * i + 2]? = some (z64 ts[i].d)
  | t :: ts, 0, _ => ⟨rfl, rfl, rfl⟩
  | t :: ts, i + 1, h => by
    have := toksC_at ts i (by simpa using h)
    have e : toksC (t :: ts) = b8 t.b :: z64 t.l :: z64 t.d :: toksC ts := rfl
    rw [e, show 3 * (i + 1) = 3 * i + 3 by omega]
    exact this
theorem oneCell_tok (ts : List Tk) : ∀ u ∈ toksC ts, u.oneCell' = true := by
  intro u hu
  obtain ⟨t, _, h⟩ := List.mem_flatMap.1 hu
  simp at h
  rcases h with rfl | rfl | rfl <;> rfl

theorem slTok : SlT Try.prog 22 25 3 24 := slT_of (z := .agg #[.int .u8 0, .int .i64 0, .int .i64 0]) Try.underlying22 (by kernel_rfl) rfl (by decide)

theorem newFinder_any (w : World) (ao : Option Addr) (n cap : Nat) (bs : List Nat) : Calls Try.prog 35 #[.slice ao n cap] w fun e w' => ∃ fb mb, e = .returned (.pointer (some ⟨fb, 0, none⟩)) ∧ Fi w' fb mb none (.slice ao n cap) bs 0 ∧ (∀ k ∈ ffp fb mb none, w.heap.size ≤ k) ∧ Chg [] w w' := by
  have hmm := @run_makeMap Try.prog
  go_enter Try.func35, Try.ntmps35
  go_wp2_with fail
  go_ret
  refine ⟨w.heap.size + 1, w.heap.size, rfl, ⟨.slice none 0 0, #[], 0, ?_, ?_, Keys.start _, own_nil _ _ _, rfl, by simp, by simp, by omega⟩, ?_, ((Chg.refl _ _).alloc _).alloc _⟩
  · have := heap_new (w.alloc (.map #[] 0)) (.cells #[.slice ao n cap, .map (some w.heap.size), .slice none 0 0, .int .i64 0] 82)
    rw [World.size_alloc] at this
    exact this
  · exact heap_old (heap_new _ _)
  · intro k hk
    rcases mem_ffp.1 hk with rfl | rfl | h
    · omega
    · omega
    · cases h

theorem parse_long (w : World) (v : Value) (n : Nat) (ahead : Bool) (hv : ∃ ao cap, v = .slice ao n cap) (hn : 1048576 < n) : Calls Try.prog 16 #[v, .bool ahead] w fun e w' => e = .returned (.tuple #[.slice none 0 0, z64 3]) ∧ w = w' := by
  obtain ⟨ao, cap, rfl⟩ := hv
  have hni : (1048576 : Int) < n := by omega
  go_enter Try.func16, Try.ntmps16
  go_wp2
  go_ret2
  exact ⟨rfl, rfl⟩

set_option maxRecDepth 100000 in
set_option maxHeartbeats 4000000 in
theorem parse_any (w : World) (v : Value) (bs : List Nat) (ahead : Bool) (hrd : Rd w 1 v bs.length (bs.map b8)) (hb : ∀ x ∈ bs, x < 256) (hl : bs.length ≤ 1048576) :
    Calls Try.prog 16 #[v, .bool ahead] w fun e w' => ∃ lv, e = .returned (.tuple #[lv, z64 0]) ∧ Own w' 25 3 lv (parseL bs ahead).length (toksC (parseL bs ahead)) ∧ New w lv ∧ Chg [] w w' := by
  have HRD := Pal.hid hrd
  obtain ⟨ao, cap, rfl, _, hmc, _⟩ := hrd
  have hni : ¬ (1048576 : Int) < bs.length := by omega
  obtain ⟨R, hR⟩ : ∃ R, R = parseL bs ahead := ⟨_, rfl⟩
  rw [← hR]
  have hRl : R.length ≤ bs.length := by rw [hR]; exact parseFrom_length _ _ _ _
  have HR0 : Hid ([] ++ parseAt bs ahead 0 = R) := show [] ++ _ = R from hR.symm
  clear hR
  go_enter Try.func16, Try.ntmps16
  go_wp2_with fail
  refine (newFinder_any w ao bs.length cap bs).mono ?_
  rintro e w1 ⟨fb, mb, rfl, hF1, hnew, hc1⟩
  go_wp2_with fail
  go_loopw [7, 8] (fun lv iv wr => ∃ (a put : Nat) (g : Option Nat) (ts : List Tk), a ≤ bs.length ∧ put ≤ a ∧ iv = z64 a ∧ Fi wr fb mb g (.slice ao bs.length cap) bs put ∧ (∀ k ∈ ffp fb mb g, w.heap.size ≤ k) ∧ Own wr 25 3 lv ts.length (toksC ts) ∧ New w lv ∧
    (∀ k, lv.ownBlock = some k → k ∉ ffp fb mb g) ∧ Hid (ts ++ parseAt bs ahead a = R) ∧ Chg [] w wr) (fun _ iv _ => bs.length - (intOf iv).toNat)
  case atStart => exact ⟨0, 0, none, [], Nat.zero_le _, Nat.le_refl _, rfl, hF1, hnew, own_nil _ _ _, New.nil _, (fun k hk => by cases hk), HR0, hc1⟩
  case round =>
    obtain ⟨a, put, g, ts, ha, hpa, rfl, hF, hn, hown, hnewl, hapart, HI, hchg⟩ := hrel
    by_cases hlt : a < bs.length
    · have hlti : (a : Int) < bs.length := by omega
      obtain ⟨t, ht⟩ : ∃ t, t = tokAt bs ahead a := ⟨_, rfl⟩
      have hok := tokAt_ok bs ahead a hlt hb
      rw [← ht] at hok
      have HN : Hid ((ts ++ [t]) ++ parseAt bs ahead (a + max 1 t.l) = R) := by
        show _ = _
        rw [← HI.out, parseAt_step hlt, ← ht, List.append_assoc]
        rfl
      have htsl : ts.length < R.length := by
        rw [← HN.out]
        simp
      have hcall := next_any w wr fb mb g _ bs put a ahead hchg HRD.out hb (by omega) hF hpa hlt hn
      rw [← ht] at hcall
      clear HI ht
      go_wp2_with fail
      refine hcall.mono ?_
      clear hcall
      rintro e w2 ⟨rfl, g2, put2, hput2, hF2, hmv2, hc2⟩
      have hown2 := hc2.owns hown hapart
      have hsz := hchg.size
      have hsz2 := hc2.size
      have hmax : (if (1 : Int) < t.l then (t.l : Int) else 1) = ((max 1 t.l : Nat) : Int) := by split <;> omega
      have hwr : IntKind.i64.wrap ((a : Int) + ((max 1 t.l : Nat) : Int)) = ((a + max 1 t.l : Nat) : Int) := by
        rw [show (a : Int) + ((max 1 t.l : Nat) : Int) = ((a + max 1 t.l : Nat) : Int) by omega]
        exact IntWalk.i64_in _ (by omega)
      have hale : a + max 1 t.l ≤ bs.length := by omega
      have halt : bs.length - (a + max 1 t.l) < bs.length - a := by omega
      have hp2 : put2 ≤ a + max 1 t.l := by omega
      generalize max 1 t.l = d at HN hmax hwr hale halt hp2
      have cW2 : Chg [] w w2 := (hchg.trans hc2 (fun k hk => .inr (hn k hk)))
      have hapart2 : ∀ k, u7.ownBlock = some k → k ∉ ffp fb mb g2 := fun k hk hk2 => by
        rcases hmv2.ok (fb := fb) (mb := mb) _ hk2 with h | h
        · exact hapart k hk h
        · have := own_lt hown hk; omega
      have hn2 := ffp_new hn hmv2 hsz
      have hF2l := hF2.lt
      clear hc2 hmv2 hF hapart
      go_wp2_with (at_builtin; refine wpList_app slTok rfl _ _ rfl rfl rfl (hown2.alloc _) (Rd.one (heap_new _ _) rfl) (by intro u hu; simp at hu; rcases hu with rfl | rfl | rfl <;> rfl) (by omega) (by unfold maxLen; omega) ?_)
      intro v3 w3 hown3 hchg3 hat3
      obtain ⟨g3, cap3, rfl, hg3⟩ := own_form hown3 (by omega)
      have cl := own_cell hown3 (3 * ts.length + 1) (u := z64 t.l) (by
        rw [List.getElem?_append_right (by rw [length_toksC]; omega), length_toksC, show 3 * ts.length + 1 - ts.length * 3 = 1 by omega]
        rfl)
      have hw2l : w2.heap.size ≤ (w2.alloc (.cells #[b8 t.b, z64 t.l, z64 t.d] 25)).heap.size := by simp
      have cW3 : Chg [] w w3 := (cW2.alloc (.cells #[b8 t.b, z64 t.l, z64 t.d] 25)).onto hnewl hchg3
      have hnew3 : New w (.slice (some ⟨g3, 0, none⟩) (ts.length + 1) cap3) := hnewl.app hat3 (by omega)
      have hF3 := (hF2.keep ((Chg.refl [] w2).alloc (.cells #[b8 t.b, z64 t.l, z64 t.d] 25)) (by simp)).keep hchg3 (fun k hk hk2 => hapart2 k (by simpa using hk2) hk)
      have hap3 : ∀ k, (Value.slice (some ⟨g3, 0, none⟩) (ts.length + 1) cap3).ownBlock = some k → k ∉ ffp fb mb g2 := fun k hk hk2 => by
        rcases hat3 with h | h
        · exact hapart2 k (h.symm.trans hk) hk2
        · have := hF2l k hk2
          rw [hk] at h
          simp at h
          omega
      have hown3' : Own w3 25 3 (.slice (some ⟨g3, 0, none⟩) (ts.length + 1) cap3) (ts ++ [t]).length (toksC (ts ++ [t])) := by
        rw [toksC_snoc, List.length_append]
        exact hown3
      rw [Nat.mul_comm] at cl
      have hs1 : ((ts.length : Int) + 1 - 1) = (ts.length : Int) := by omega
      have HHF := Pal.hid hF3
      have HHO := Pal.hid hown3'
      have HHA := Pal.hid hap3
      have HHN := Pal.hid hnew3
      have HHC := Pal.hid cW3
      have HHn := Pal.hid hn2
      clear hF3 hown3' hap3 hnew3 cW3 hn2 hat3 hchg3 hown3 hF2 hapart2 cW2 hown2 hown hchg hn hnewl
      go_wp2_with fail
      go_roundw
      case measure => simp [intOf]; omega
      exact ⟨a + d, put2, g2, ts ++ [t], hale, hp2, rfl, HHF.out, HHn.out, HHO.out, HHN.out, HHA.out, HN, HHC.out⟩
    · have hlti : ¬ (a : Int) < bs.length := by omega
      have hRe : Hid (ts = R) := by
        show _ = _
        rw [← HI.out, parseAt_end (by omega), List.append_nil]
      clear HI
      go_wp2_with fail
      go_ret2
      refine ⟨_, rfl, ?_, hnewl, hchg⟩
      rw [← hRe.out]
      exact hown
end Go.Proofs.Ytleaimlaljlokaa
