/- RegionsApart: its contract. -/
import Derived.Test.YtlmablpekedcfaaRgApartB
set_option linter.unusedVariables false
namespace Go.Proofs.Ytlmablpekedcfaa
open Go.RowKit Go.ChangeShapes Go.WideShapes Go.ChangeAt Pal Pal.Rg

set_option maxRecDepth 100000 in
set_option maxHeartbeats 4000000 in
theorem apart_early (ao : Option Addr) (cap m : Nat) (n s : Int) (w : World) (h60 : 60 < m) :
    Calls Try.prog 4 #[.slice ao m cap, z64 n, z64 s] w fun e w' => e = .returned (.bool true) ∧ Chg [] w w' := by
  have HW := Pal.hid (fun (wx : World) => works_any wx)
  have hg : (60 : Int) < m := by omega
  have hgd : decide ((60 : Int) < m) = true := by simpa using hg
  have hx := heap_new w (.cells #[.bool false] 4)
  have HX := Pal.hid hx
  have HC := Pal.hid ((Chg.refl [] w).alloc (.cells #[.bool false] 4))
  clear hx
  go_enter Try.func4, Try.ntmps4
  go_wp2_with fail
  refine (HW.out _).mono ?_
  rintro e w1 ⟨rfl, hc⟩
  have t6 : Boxed w1 w.heap.size 4 (.bool false) := hc.heap HX.out (by simp)
  have x6 := t6.cell
  have f6 := t6.frozen
  have l6 := t6.lt
  have t6' := t6.set (.bool true)
  have cell6 := t6'.cell
  have HF := Pal.hid ((HC.out.trans hc (by simp)).setCell (p := ⟨w.heap.size, 0, none⟩) (.inr (Nat.le_refl _)) (.bool true))
  clear hc t6 t6'
  go_wp2_with fail
  exact bodyPost_ret (v := .bool true) (by simp [results, Try.results4, go_sem, cell6]) rfl ⟨rfl, HF.out⟩

set_option maxRecDepth 100000 in
theorem apart_call {H : Type} (enc : TypeId × Value → H) (base : Nat) (v0 : Value) (d0 : DataW H) (p0 : List MemPlace) (v1 : Value) (d1 : DataW H) (p1 : List MemPlace) (v2 : Value) (d2 : DataW H) (p2 : List MemPlace) (W : World)
    (o0 : Value.okWide Try.prog W .any base 22 v0) (h0 : DataW.Trod enc Try.prog W 0 (fun _ => true) true 22 v0 d0 p0) (o1 : Value.okWide Try.prog W .any base 2 v1) (h1 : DataW.Trod enc Try.prog W 0 (fun _ => true) true 2 v1 d1 p1)
    (o2 : Value.okWide Try.prog W .any base 2 v2) (h2 : DataW.Trod enc Try.prog W 0 (fun _ => true) true 2 v2 d2 p2) :
    Calls Try.prog 4 #[v0, v1, v2] W fun e w' => e = .returned (.bool true) ∧ Chg [] W w' := by
  obtain ⟨l, hrd, _⟩ := open_regs o0 h0
  obtain ⟨n, rfl, _, _, b1⟩ := open_int Try.underlying2 o1 h1
  obtain ⟨s, rfl, _, _, b2⟩ := open_int Try.underlying2 o2 h2
  have hrd2 := hrd
  obtain ⟨ao, cap, rfl, _⟩ := hrd
  by_cases h60 : l.length ≤ 60
  · exact apart_main ao cap l n s W hrd2 h60 (wd_of b1) (wd_of b2)
  · exact apart_early ao cap l.length n s W (by omega)
end Go.Proofs.Ytlmablpekedcfaa
