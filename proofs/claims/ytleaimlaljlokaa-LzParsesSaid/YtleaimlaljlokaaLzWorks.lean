/- Contracts over lz: going over tokens; the laws' own 'works': a text with something that comes again. -/
import Derived.Test.YtleaimlaljlokaaLzExpandR
import Derived.Lib.SlBytesConst
set_option linter.unusedVariables false
namespace Go.Proofs.Ytleaimlaljlokaa
open Go.RowKit Pal

theorem abc_parse : parseL [97, 98, 99, 97, 98, 99, 97, 98, 99, 100] false = [⟨97, 0, 0⟩, ⟨98, 0, 0⟩, ⟨99, 0, 0⟩, ⟨0, 6, 3⟩, ⟨100, 0, 0⟩] := by decide +kernel
theorem abc_expand : expandG 10 0 [] [⟨97, 0, 0⟩, ⟨98, 0, 0⟩, ⟨99, 0, 0⟩, ⟨0, 6, 3⟩, ⟨100, 0, 0⟩] = ⟨[97, 98, 99, 97, 98, 99, 97, 98, 99, 100], 5, 0⟩ := by decide +kernel

set_option maxRecDepth 100000 in
set_option maxHeartbeats 4000000 in
theorem tokens_any (w : World) (v : Value) (bs : List Nat) (hrd : Rd w 1 v bs.length (bs.map b8)) (hb : ∀ x ∈ bs, x < 256) (hl : bs.length ≤ 1048576) : Calls Try.prog 20 #[v] w fun e w' => ∃ B lv,
    e = .returned (.tuple #[.func (.func 38) #[] #[.pointer (some ⟨B, 0, none⟩)], z64 0]) ∧ w'.heap[B]? = some (.cells #[lv] 22 (0, 0)) ∧ Own w' 25 3 lv (parseL bs false).length (toksC (parseL bs false)) ∧ New w lv ∧ lv.ownBlock ≠ some B ∧ w.heap.size ≤ B ∧ Chg [] w w' := by
  have HP := Pal.hid (parse_any w v bs false hrd hb hl)
  clear hrd
  go_enter Try.func20, Try.ntmps20
  go_wp2_with fail
  refine HP.out.mono ?_
  rintro e w1 ⟨lv, rfl, hown, hnew, hc⟩
  have hob : lv.ownBlock ≠ some w1.heap.size := fun h => by have := own_lt hown h; omega
  obtain ⟨ao, cp, rfl⟩ := own_slice hown
  have hs := hc.size
  go_wp2_with fail
  go_ret2
  exact ⟨_, _, rfl, heap_new _ _, hown.alloc _, hnew, hob, hs, hc.alloc _⟩

theorem tokens_long (w : World) (v : Value) (n : Nat) (hv : ∃ ao cap, v = .slice ao n cap) (hn : 1048576 < n) : Calls Try.prog 20 #[v] w fun e w' => e = .returned (.tuple #[.nilFunc, z64 3]) ∧ Chg [] w w' := by
  have HP := Pal.hid (parse_long w v n false hv hn)
  go_enter Try.func20, Try.ntmps20
  go_wp2_with fail
  refine HP.out.mono ?_
  rintro e w1 ⟨rfl, rfl⟩
  go_wp2_with fail
  go_ret2
  exact ⟨rfl, (Chg.refl _ _).alloc _⟩

theorem func_neq (f : Fn) (a c : Array Value) (w : World) : (binOp .neq 44 (.func f a c) .nilFunc).run Try.prog w = .ok (.bool true) w := by kernel_rfl
theorem nilFunc_neq (w : World) : (binOp .neq 44 .nilFunc .nilFunc).run Try.prog w = .ok (.bool false) w := by kernel_rfl

set_option maxRecDepth 100000 in
set_option maxHeartbeats 4000000 in
theorem works_any (w : World) : Calls Try.prog 9 #[] w fun e w' => e = .returned (.bool true) ∧ Chg [] w w' := by
  have hfn := func_neq
  have kc := fun (w : World) (C : Array Value) (n c : Nat) => Lib.run_convert_bytes_const (P := Try.prog) w 26 5 C n c Try.underlying26 Try.underlying5
  go_enter Try.func9, Try.ntmps9
  go_wp2_with fail
  have c0 := (Chg.refl [] w).alloc (.cells #[.int .u8 97, .int .u8 98, .int .u8 99, .int .u8 97, .int .u8 98, .int .u8 99, .int .u8 97, .int .u8 98, .int .u8 99, .int .u8 100] 5 (10, 11))
  have hp := parse_any _ _ [97, 98, 99, 97, 98, 99, 97, 98, 99, 100] false (Rd.one (sz := 1) (m := 10) (c := 10) (heap_new w (.cells #[.int .u8 97, .int .u8 98, .int .u8 99, .int .u8 97, .int .u8 98, .int .u8 99, .int .u8 97, .int .u8 98, .int .u8 99, .int .u8 100] 5 (10, 11))) rfl) (by decide) (by decide)
  rw [abc_parse] at hp
  refine hp.mono ?_
  clear hp
  rintro e w1 ⟨lv, rfl, hown, hnew, hc1⟩
  have c1 := c0.trans hc1 (by simp)
  obtain ⟨g, cp, rfl, hg⟩ := own_form hown (by decide)
  have l0 := own_cell hown 9 (u := b8 0) rfl
  have l1 := own_cell hown 10 (u := z64 6) rfl
  have l2 := own_cell hown 11 (u := z64 3) rfl
  have HX := Pal.hid (expand_any 10 _ _ w1 hown.rd (by simp [Tk.ok]) (by decide) (by decide))
  rw [abc_expand] at HX
  clear hc1 c0 hnew hown
  go_wp2_with fail
  refine HX.out.mono ?_
  rintro e w2 ⟨bv, rfl, hob, hnb, hc2⟩
  have c2 := c1.trans hc2 (by simp)
  have l0 := hc2.cell l0 (by simp)
  have l1 := hc2.cell l1 (by simp)
  have l2 := hc2.cell l2 (by simp)
  clear HX hc2 c1
  have HT := Pal.hid (tokens_any w2 (.slice none 0 0) [] ⟨none, 0, rfl, rfl, Nat.le_refl _, fun _ => ⟨rfl, rfl⟩, fun a h => by cases h⟩ (by simp) (by decide))
  go_wp2_with fail
  refine HT.out.mono ?_
  rintro e w3 ⟨B, tv, rfl, hB, hot, hnt, hbt, hBs, hc3⟩
  have c3 := c2.trans hc3 (by simp)
  have l0 := hc3.cell l0 (by simp)
  have l1 := hc3.cell l1 (by simp)
  have l2 := hc3.cell l2 (by simp)
  have hob : Own w3 5 1 bv 10 ([97, 98, 99, 97, 98, 99, 97, 98, 99, 100].map b8) := hc3.owns hob (by simp)
  clear HT hc3 c2 hB hot hnt hbt hBs
  have es := run_str (l := [97, 98, 99, 97, 98, 99, 97, 98, 99, 100]) hob.rd (by decide) Try.underlying26 Try.underlying5 Try.underlying9
  rw [show strOf [97, 98, 99, 97, 98, 99, 97, 98, 99, 100] = (⟨#[97, 98, 99, 97, 98, 99, 97, 98, 99, 100]⟩ : ByteArray) from rfl] at es
  go_wp2_with fail
  refine (num_any _ _).mono ?_
  rintro e w' ⟨rfl, rfl⟩
  go_wp2_with fail
  refine (num_any _ _).mono ?_
  rintro e w' ⟨rfl, rfl⟩
  go_wp2_with fail
  refine (num_any _ _).mono ?_
  rintro e w' ⟨rfl, rfl⟩
  go_wp2_with fail
  go_ret
  exact ⟨rfl, c3⟩
end Go.Proofs.Ytleaimlaljlokaa
