/- RegionsPlay holds of every script: its contract, the case of more than 40 calls beside. No condition. The statement of the law RegionsPlay, from its contract: true at every input, nothing that was there is changed. No condition. -/
import Derived.Test.YtlmablpekedcfaaRgPz
import Derived.Test.YtlmablpekedcfaaRows
import Derived.WalkKit
import Derived.ProofKit
import Derived.OpenShut
import Derived.Carry
set_option linter.unusedVariables false
namespace Go.Proofs.Ytlmablpekedcfaa
open Go.RowKit Go.ChangeShapes Go.WideShapes Go.ChangeAt Pal Pal.Rg

set_option maxRecDepth 100000 in
theorem play_rg (v : Value) (ss : List Cal) (w : World) (hrd : Rd w 7 v ss.length (calC ss)) (hok : ∀ s ∈ ss, CalOk w s) :
    Calls Try.prog 7 #[v] w fun e w' => e = .returned (.bool true) ∧ Chg [] w w' := by
  by_cases h40 : ss.length ≤ 40
  · exact play_main v ss w hrd h40 hok
  · have HW := Pal.hid (fun (wx : World) => works_any wx)
    have hg : (40 : Int) < ss.length := by omega
    have hgd : decide ((40 : Int) < ss.length) = true := by simpa using hg
    obtain ⟨ao, cap, rfl, _⟩ := hrd
    clear hok
    go_enter Try.func7, Try.ntmps7
    go_wp2_with fail
    refine (HW.out _).mono ?_
    rintro e w' ⟨rfl, hc⟩
    go_wp2_with fail
    go_ret
    exact ⟨rfl, hc⟩

set_option maxRecDepth 100000 in
theorem play_call {H : Type} (enc : TypeId × Value → H) (base : Nat) (v0 : Value) (d0 : DataW H) (p0 : List MemPlace) (W : World) (o0 : Value.okWide Try.prog W .any base 60 v0) (h0 : DataW.Trod enc Try.prog W 0 (fun _ => true) true 60 v0 d0 p0) :
    Calls Try.prog 7 #[v0] W fun e w' => e = .returned (.bool true) ∧ Chg [] W w' := by
  obtain ⟨ss, hrd, _, hok⟩ := open_script o0 h0
  exact play_rg v0 ss W hrd hok
end Go.Proofs.Ytlmablpekedcfaa

namespace Go.Proofs.Ytlmablpekedcfaa.regionsPlay
open Go.ChangeShapes Go.WideShapes Go.ChangeAt Go.RowKit Pal

theorem own : ownKnob Try.prog.godebug = none := by kernel_rfl
theorem laidOut : laidOutB Try.prog = true := by kernel_rfl

set_option maxRecDepth 100000 in
set_option maxHeartbeats 4000000 in
theorem lifted (os : Os) (started : os.Started) (H : Type) (enc : TypeId × Value → H) :
    ReturnsInHanded {} Try.checked os 7 .any (Rows.regionsPlaySpec.pre6 enc Try.prog Try.f7 Rows.regionsPlayRow.domain false) (Rows.regionsPlaySpec.post enc Try.prog Try.f7 false true false false) := by
  refine returnsInHanded_of_change (C := Try.checked) own started (by kernel_rfl) Try.func7
    (ChangeSpec.witness6 (enc := enc) (C := Try.checked) false ⟨#[], #[.slice none 0 0], []⟩ 8 (by kernel_rfl) (by kernel_rfl) (by kernel_rfl) (by kernel_rfl)) ?_
  intro W base args ds gs before hval0 hW hcnd _
  have hval : ∀ (j : Nat) t v, Try.f7.params[j]? = some t → args[j]? = some v → Value.okWide Try.prog W .any base t v := hval0
  have hW' := hW
  obtain ⟨p, q, hA0, hV, rfl, hfz, hnd⟩ := hW
  have hA : DataW.TrodAll enc Try.prog W 0 (fun _ => true) true Try.f7.params.toList args.toList ds p := hA0
  rw [Try.params7] at hA hval
  obtain ⟨v0, vs0, d0, ds0, p0, q0, hargs, rfl, rfl, h0, r0⟩ := trodAll_cons hA
  obtain ⟨rfl, rfl, rfl⟩ := trodAll_nil r0
  obtain rfl : args = #[v0] := by cases args; simp_all
  obtain ⟨rfl, rfl⟩ := trodVars_none hV
  have lt0 : ∀ x ∈ p0, x.block < W.heap.size := by obtain ⟨m, hm⟩ := h0; exact DataW.trod_lt m _ _ _ hm
  refine (play_call enc base v0 d0 p0 W (hval 0 60 v0 rfl rfl) h0).mono fun e W' ⟨he, hc⟩ => ?_
  subst he
  have bel := hc.below
  exact ⟨_, rfl, _, _, _, [], _, [], hW', trodAll_mk1 (shut_bool Try.underlying4 _), (trodAll_cons_mk (Below.trod laidOut (by kernel_rfl) (of_decide_eq_true (by kernel_rfl)) h0 bel lt0) trodAll_mk0), rfl, bel.frame _, fun h => by cases h⟩

theorem over : Rows.regionsPlayRow.holds Try.pinned (OpenSpec.ofChange Rows.regionsPlaySpec) :=
  OpenClaim.holds_of_wide 7 Try.f7 rfl rfl rfl rfl rfl rfl rfl ⟨rfl, rfl, rfl, rfl, rfl⟩ rfl rfl rfl rfl rfl (by kernel_rfl) Try.func7 (by kernel_rfl)
    (of_decide_eq_true (by kernel_rfl)) (by unfold Func.isWrapper; first | (rw [if_pos (by decide +kernel)]; kernel_rfl) | (rw [if_neg (by decide +kernel)]; exact ⟨rfl, rfl⟩))
    (fun os started H enc _ => lifted os started H enc)

theorem proved : Rows.RegionsPlaySaid :=
  over
#print axioms proved
end Go.Proofs.Ytlmablpekedcfaa.regionsPlay
