/- GranulesHold: its first loop. -/
import Derived.Test.YtbedjjillioaaaaDoorGrHoldA
import Derived.Test.YtbedjjillioaaaaDoorGrHoldP
import Derived.Test.YtbedjjillioaaaaDoorMarks
import Derived.Test.YtbedjjillioaaaaDoorRegionLast
import Derived.Test.YtbedjjillioaaaaDoorGrMerge
import Derived.Deep.CutRange
set_option linter.unusedVariables false
namespace Go.Proofs.YtbedjjillioaaaaDoor
open Go.RowKit Go.ChangeShapes Go.WideShapes Go.ChangeAt Pal Pal.Gr

attribute [local go_sem] Oper.semAt_some

def firstLoop : Code → Option Code
  | .loop c => some c
  | .seq a b => match firstLoop a with
    | some c => some c
    | none => firstLoop b
  | .block _ c => firstLoop c
  | .scope c => firstLoop c
  | .cond _ a b => match firstLoop a with
    | some c => some c
    | none => firstLoop b
  | _ => none

set_option maxRecDepth 1000000 in
set_option maxHeartbeats 8000000 in
theorem hold_loop1 {Q0 : Exit → Act → World → Prop} (W w0 w2 : World) (size gran : Nat) (ao co : Option Addr) (cap ccap : Nat) (T B1 pA bA pB bB : Nat) (l m : List (Int × Int)) (HS : Hid (Rd W 2 (.slice ao l.length cap) l.length (runsC l))) (hsz : size ≤ 100000) (h9 : 9 ≤ gran) (h26 : gran ≤ 26) (hl : l.length ≤ 20)
    (HX : Hid (∀ wx, Chg [] w0 wx → wx.cell? ⟨B1, 0, none⟩ = some (z64 size) ∧ wx.cell? ⟨B1, 1, none⟩ = some (z64 gran) ∧ wx.cell? ⟨B1, 2, none⟩ = some (z64 T) ∧ wx.cell? ⟨B1, 3, none⟩ = some (.slice ao l.length cap) ∧ wx.cell? ⟨B1, 4, none⟩ = some (.slice co m.length ccap) ∧ B1 < wx.heap.size))
    (HCW : Hid (Chg [] W w0)) (HNE : Hid ((pA ≠ pB ∧ pA ≠ bB ∧ bA ≠ pB ∧ bA ≠ bB) ∧ w0.heap.size ≤ pA ∧ w0.heap.size ≤ bA ∧ w0.heap.size ≤ pB ∧ w0.heap.size ≤ bB))
    (HGA2 : Hid (Gm w2 pA bA size gran (List.replicate ((manyG size gran + 63) / 64) 0))) (HGB : Hid (Gm w2 pB bB size gran (List.replicate ((manyG size gran + 63) / 64) 0))) (HC2 : Hid (Chg [] w0 w2))
    (c0 c2 c4 c6 c8 c9 c10 c11 c12 c13 c14 c15 c16 c17 c18 c19 c20 c21 c22 c23 c24 c25 c26 c27 c28 c29 c30 c31 c32 c33 c34 c35 c36 c37 c38 c39 c40 c41 c42 c43 c44 c45 c46 c47 c48 c49 c50 c51 c52 c53 c54 c55 c56 c57 c58 c59 c60 c61 c62 c63 c64 c65 c66 c67 c68 c69 c70 c71 c72 c73 c74 c75 c76 c77 c78 c79 c80 c81 c82 c83 c84 c85 c86 c87 c88 c89 c90 c91 c92 c93 c94 c95 c96 c97 c98 c99 c100 c101 c102 c103 c104 c105 c106 c107 c108 c109 c110 c111 c112 c113 c114 c115 c116 c117 c118 c119 c120 c121 c122 c123 c124 c125 c126 c127 c128 c129 c130 c131 c132 c133 c134 c135 c136 c137 c138 c139 c140 c141 c142 c143 c144 c145 c146 c147 c148 c149 c150 c151 c152 c153 c154 c155 c156 c157 c158 c159 c160 c161 c162 c163 c164 c165 c166 c167 c168 c169 c170 c171 c172 c173 c174 c175 c176 c177 c178 c179 c180 c181 c182 c183 c184 c185 c186 c187 c188 c189 c190 c191 c192 c193 c194 c195 c196 c197 c198 c199 c200 c201 c202 c203 c204 c205 c206 c207 c208 c209 c210 c211 c212 c213 c214 c215 c216 c217 c218 c219 c220 c221 c222 c223 c224 c225 c226 c227 c228 c229 c230 c231 c232 c233 c234 c235 c236 c237 c238 c239 c240 c241 c242 c243 c244 c245 c246 c247 c248 c249 c250 c251 c252 c253 c254 c255 c256 c257 c258 c259 c260 c261 c262 c263 c264 c265 c266 c267 c268 c269 c270 c271 c272 c273 c274 c275 c276 c277 c278 c279 c280 c281 c282 c283 c284 c285 c286 c287 c288 c289 c290 c291 c292 c293 c294 c295 c296 c297 c298 c299 c300 c301 c302 c303 c304 c305 c306 c307 c308 c309 c310 c311 c312 c313 c314 c315 c316 c317 c318 c319 c320 c321 c322 c323 c324 c325 c326 c327 c328 c329 c330 c331 c332 : Value)
    (hexit : ∀ (x8 x9 x10 x11 x12 x13 x14 x15 x92 x93 x94 x95 x96 x97 x98 x99 x100 x101 x102 x103 x104 x105 x106 x107 x108 x109 x110 x111 x112 x113 x114 x115 x116 x117 x118 x119 x120 x121 x122 x123 x124 x125 x126 x127 x128 x129 x130 x131 x132 x133 x134 x135 x136 x137 x138 x139 x140 x141 x142 x143 x144 x145 x146 : Value) (wr : World) (wsA wsB : List Nat), Hid (Gm wr pA bA size gran wsA) → Hid (Gm wr pB bB size gran wsB) → Hid (Chg [] w0 wr) → Q0 (.exit 0) { tmps := (List.toArray [c0, .pointer (some ⟨B1, 0, none⟩), c2, .pointer (some ⟨pA, 0, none⟩), c4, .pointer (some ⟨pB, 0, none⟩), c6, z64 l.length, x8, x9, x10, x11, x12, x13, x14, x15, c16, c17, c18, c19, c20, c21, c22, c23, c24, c25, c26, c27, c28, c29, c30, c31, c32, c33, c34, c35, c36, c37, c38, c39, c40, c41, c42, c43, c44, c45, c46, c47, c48, c49, c50, c51, c52, c53, c54, c55, c56, c57, c58, c59, c60, c61, c62, c63, c64, c65, c66, c67, c68, c69, c70, c71, c72, c73, c74, c75, c76, c77, c78, c79, c80, c81, c82, c83, c84, c85, c86, c87, c88, c89, c90, c91, x92, x93, x94, x95, x96, x97, x98, x99, x100, x101, x102, x103, x104, x105, x106, x107, x108, x109, x110, x111, x112, x113, x114, x115, x116, x117, x118, x119, x120, x121, x122, x123, x124, x125, x126, x127, x128, x129, x130, x131, x132, x133, x134, x135, x136, x137, x138, x139, x140, x141, x142, x143, x144, x145, x146, c147, c148, c149, c150, c151, c152, c153, c154, c155, c156, c157, c158, c159, c160, c161, c162, c163, c164, c165, c166, c167, c168, c169, c170, c171, c172, c173, c174, c175, c176, c177, c178, c179, c180, c181, c182, c183, c184, c185, c186, c187, c188, c189, c190, c191, c192, c193, c194, c195, c196, c197, c198, c199, c200, c201, c202, c203, c204, c205, c206, c207, c208, c209, c210, c211, c212, c213, c214, c215, c216, c217, c218, c219, c220, c221, c222, c223, c224, c225, c226, c227, c228, c229, c230, c231, c232, c233, c234, c235, c236, c237, c238, c239, c240, c241, c242, c243, c244, c245, c246, c247, c248, c249, c250, c251, c252, c253, c254, c255, c256, c257, c258, c259, c260, c261, c262, c263, c264, c265, c266, c267, c268, c269, c270, c271, c272, c273, c274, c275, c276, c277, c278, c279, c280, c281, c282, c283, c284, c285, c286, c287, c288, c289, c290, c291, c292, c293, c294, c295, c296, c297, c298, c299, c300, c301, c302, c303, c304, c305, c306, c307, c308, c309, c310, c311, c312, c313, c314, c315, c316, c317, c318, c319, c320, c321, c322, c323, c324, c325, c326, c327, c328, c329, c330, c331, c332]), defers := [] } wr) :
    Code.wp Tryd.prog (Code.loop ((Tryd.f6.body.bind firstLoop).getD .skip)) Q0 { tmps := (List.toArray [c0, .pointer (some ⟨B1, 0, none⟩), c2, .pointer (some ⟨pA, 0, none⟩), c4, .pointer (some ⟨pB, 0, none⟩), c6, z64 0, c8, c9, c10, c11, c12, c13, c14, c15, c16, c17, c18, c19, c20, c21, c22, c23, c24, c25, c26, c27, c28, c29, c30, c31, c32, c33, c34, c35, c36, c37, c38, c39, c40, c41, c42, c43, c44, c45, c46, c47, c48, c49, c50, c51, c52, c53, c54, c55, c56, c57, c58, c59, c60, c61, c62, c63, c64, c65, c66, c67, c68, c69, c70, c71, c72, c73, c74, c75, c76, c77, c78, c79, c80, c81, c82, c83, c84, c85, c86, c87, c88, c89, c90, c91, c92, c93, c94, c95, c96, c97, c98, c99, c100, c101, c102, c103, c104, c105, c106, c107, c108, c109, c110, c111, c112, c113, c114, c115, c116, c117, c118, c119, c120, c121, c122, c123, c124, c125, c126, c127, c128, c129, c130, c131, c132, c133, c134, c135, c136, c137, c138, c139, c140, c141, c142, c143, c144, c145, c146, c147, c148, c149, c150, c151, c152, c153, c154, c155, c156, c157, c158, c159, c160, c161, c162, c163, c164, c165, c166, c167, c168, c169, c170, c171, c172, c173, c174, c175, c176, c177, c178, c179, c180, c181, c182, c183, c184, c185, c186, c187, c188, c189, c190, c191, c192, c193, c194, c195, c196, c197, c198, c199, c200, c201, c202, c203, c204, c205, c206, c207, c208, c209, c210, c211, c212, c213, c214, c215, c216, c217, c218, c219, c220, c221, c222, c223, c224, c225, c226, c227, c228, c229, c230, c231, c232, c233, c234, c235, c236, c237, c238, c239, c240, c241, c242, c243, c244, c245, c246, c247, c248, c249, c250, c251, c252, c253, c254, c255, c256, c257, c258, c259, c260, c261, c262, c263, c264, c265, c266, c267, c268, c269, c270, c271, c272, c273, c274, c275, c276, c277, c278, c279, c280, c281, c282, c283, c284, c285, c286, c287, c288, c289, c290, c291, c292, c293, c294, c295, c296, c297, c298, c299, c300, c301, c302, c303, c304, c305, c306, c307, c308, c309, c310, c311, c312, c313, c314, c315, c316, c317, c318, c319, c320, c321, c322, c323, c324, c325, c326, c327, c328, c329, c330, c331, c332]), defers := [] } w2 := by
  conv => arg 2; arg 1; whnf
  conv => arg 4; dsimp only
  dsimp only at hexit
  go_loopw [7, 8, 9, 10, 11, 12, 13, 14, 15] (fun iv _ _ _ _ _ _ _ _ wr => ∃ (i : Nat) (wsA wsB : List Nat), i ≤ l.length ∧ iv = z64 i ∧ Hid (Gm wr pA bA size gran wsA) ∧ Hid (Gm wr pB bB size gran wsB) ∧ Hid (Chg [] w0 wr)) (fun iv _ _ _ _ _ _ _ _ _ => l.length - (intOf iv).toNat)
  case atStart => exact ⟨0, _, _, Nat.zero_le _, rfl, HGA2, HGB, HC2⟩
  case round =>
    obtain ⟨i, wsA, wsB, hi, rfl, HA, HB, HCR⟩ := hrel
    obtain ⟨-, -, -, x3, -, xl⟩ := HX.out _ HCR.out
    by_cases hil : i < l.length
    · have hili : (i : Int) < l.length := by omega
      have hwi : IntKind.i64.wrap ((i : Int) + 1) = ((i + 1 : Nat) : Int) := IntWalk.i64_in _ (by omega)
      obtain ⟨vb, off, cb, hv, _, hvl, hcell⟩ := (HS.out.keep (HCW.out.trans HCR.out (by simp)) (by simp)).at (by rw [length_runsC]; omega)
      simp only [Value.slice.injEq] at hv
      obtain ⟨rfl, -, rfl⟩ := hv
      obtain ⟨e0, e1⟩ := runs_cells hcell hil
      generalize l[i] = x at e0 e1
      obtain ⟨at0, n0⟩ := x
      dsimp only at e0 e1
      obtain ⟨r, hr⟩ : ∃ r, r = i % 2 := ⟨_, rfl⟩
      have q3 : Int.tmod (i : Int) 2 = (r : Int) := by rw [hr]; rfl
      have q4 : (i : Int) % 2 = (r : Int) := by rw [hr]; rfl
      have hr2 : r = 0 ∨ r = 1 := by omega
      clear hr
      clear hcell
      go_upto_if 102 with fail
      go_cut [8] from 102 to 103 (fun mv wx => wx = wr ∧ ∃ pm bm wsm, mv = .pointer (some ⟨pm, 0, none⟩) ∧ Hid ((pm = pA ∧ bm = bA ∧ wsm = wsA) ∨ (pm = pB ∧ bm = bB ∧ wsm = wsB)))
      case first =>
        rcases hr2 with rfl | rfl
        · go_wp2_with fail
          go_meet
          exact ⟨rfl, pA, bA, wsA, rfl, Pal.hid (.inl ⟨rfl, rfl, rfl⟩)⟩
        · go_wp2_with fail
          go_meet
          exact ⟨rfl, pB, bB, wsB, rfl, Pal.hid (.inr ⟨rfl, rfl, rfl⟩)⟩
      case rest =>
        obtain ⟨hwc, pm, bm, wsm, rfl, HCASE⟩ := hcut
        subst hwc
        clear q3 q4 hr2
        have HM : Hid (Gm wc pm bm size gran wsm) := by
          rcases HCASE.out with ⟨rfl, rfl, rfl⟩ | ⟨rfl, rfl, rfl⟩
          · exact HA
          · exact HB
        go_wp2_with fail
        have cd : Chg [] wc wc.drew := (Chg.refl _ wc).drew
        refine wp_region_noPanic ?_
        refine wp_region_held_drew (S := fun wx => wx.cell? ⟨B1, 3, none⟩ = some (.slice (some ⟨vb, off, none⟩) l.length cap) ∧ wx.cell? ⟨vb, off + i * 2, none⟩ = some (z64 at0) ∧ wx.cell? ⟨vb, off + i * 2 + 1, none⟩ = some (z64 n0)) (by kernel_rfl) ⟨x3, e0, e1⟩ (fun hHeld => ?_)
        refine Pal.held_take (i := 0) (v := ?_) rfl (by kernel_rfl) (by kernel_rfl) (by kernel_rfl) (fun _ _ _ h => h) (Or.inl ⟨by rfl, ?_⟩) hHeld ?_
        rotate_left
        · (intro w hSw; (try dsimp only at hSw); go_simp)
          first | done | with_reducible rfl
        (try simp only [Act.put, List.setIfInBounds_toArray, List.set_cons_zero, List.set_cons_succ])
        refine Pal.held_take (i := 1) (v := ?_) rfl (by kernel_rfl) (by kernel_rfl) (by kernel_rfl) (fun _ _ _ h => h) (Or.inl ⟨by rfl, ?_⟩) hHeld ?_
        rotate_left
        · (intro w hSw; (try dsimp only at hSw); go_simp)
          first | done | with_reducible rfl
        (try simp only [Act.put, List.setIfInBounds_toArray, List.set_cons_zero, List.set_cons_succ])
        refine Pal.held_take (i := 2) (v := ?_) rfl (by kernel_rfl) (by kernel_rfl) (by kernel_rfl) (fun _ _ _ h => h) (Or.inl ⟨by rfl, ?_⟩) hHeld ?_
        rotate_left
        · (intro w hSw; (try dsimp only at hSw); go_simp)
          first | done | with_reducible rfl
        (try simp only [Act.put, List.setIfInBounds_toArray, List.set_cons_zero, List.set_cons_succ])
        refine Pal.held_take (i := 3) (v := ?_) rfl (by kernel_rfl) (by kernel_rfl) (by kernel_rfl) (fun _ _ _ h => h) (Or.inl ⟨by rfl, ?_⟩) hHeld ?_
        rotate_left
        · (intro w hSw; (try dsimp only at hSw); go_simp)
          first | done | with_reducible rfl
        (try simp only [Act.put, List.setIfInBounds_toArray, List.set_cons_zero, List.set_cons_succ])
        refine Pal.held_take (i := 4) (v := ?_) rfl (by kernel_rfl) (by kernel_rfl) (by kernel_rfl) (fun _ _ _ h => h) (Or.inl ⟨by rfl, ?_⟩) hHeld ?_
        rotate_left
        · (intro w hSw; (try dsimp only at hSw); go_simp)
          first | done | with_reducible rfl
        (try simp only [Act.put, List.setIfInBounds_toArray, List.set_cons_zero, List.set_cons_succ])
        refine Pal.held_take (i := 5) (v := ?_) rfl (by kernel_rfl) (by kernel_rfl) (by kernel_rfl) (fun _ _ _ h => h) (Or.inl ⟨by rfl, ?_⟩) hHeld ?_
        rotate_left
        · (intro w hSw; (try dsimp only at hSw); go_simp)
          first | done | with_reducible rfl
        (try simp only [Act.put, List.setIfInBounds_toArray, List.set_cons_zero, List.set_cons_succ])
        refine Pal.held_take (i := 6) (v := ?_) rfl (by kernel_rfl) (by kernel_rfl) (by kernel_rfl) (fun _ _ _ h => h) (Or.inl ⟨by rfl, ?_⟩) hHeld ?_
        rotate_left
        · (intro w hSw; (try dsimp only at hSw); go_simp)
          first | done | with_reducible rfl
        (try simp only [Act.put, List.setIfInBounds_toArray, List.set_cons_zero, List.set_cons_succ])
        refine Pal.held_take (i := 7) (v := ?_) rfl (by kernel_rfl) (by kernel_rfl) (by kernel_rfl) (fun _ _ _ h => h) (Or.inl ⟨by rfl, ?_⟩) hHeld ?_
        rotate_left
        · (intro w hSw; (try dsimp only at hSw); go_simp)
          first | done | with_reducible rfl
        (try simp only [Act.put, List.setIfInBounds_toArray, List.set_cons_zero, List.set_cons_succ])
        refine Pal.held_take (i := 8) (v := ?_) rfl (by kernel_rfl) (by kernel_rfl) (by kernel_rfl) (fun _ _ _ h => h) (Or.inl ⟨by rfl, ?_⟩) hHeld ?_
        rotate_left
        · (intro w hSw; (try dsimp only at hSw); go_simp)
          first | done | with_reducible rfl
        (try simp only [Act.put, List.setIfInBounds_toArray, List.set_cons_zero, List.set_cons_succ])
        refine Pal.held_take (i := 9) (v := ?_) rfl (by kernel_rfl) (by kernel_rfl) (by kernel_rfl) (fun _ _ _ h => h) (Or.inl ⟨by rfl, ?_⟩) hHeld ?_
        rotate_left
        · (intro w hSw; (try dsimp only at hSw); go_simp)
          first | done | with_reducible rfl
        (try simp only [Act.put, List.setIfInBounds_toArray, List.set_cons_zero, List.set_cons_succ])
        refine Pal.held_take (i := 10) (v := ?_) rfl (by kernel_rfl) (by kernel_rfl) (by kernel_rfl) (fun _ _ _ h => h) (Or.inl ⟨by rfl, ?_⟩) hHeld ?_
        rotate_left
        · (intro w hSw; (try dsimp only at hSw); go_simp)
          first | done | with_reducible rfl
        (try simp only [Act.put, List.setIfInBounds_toArray, List.set_cons_zero, List.set_cons_succ])
        refine Pal.held_take (i := 11) (v := ?_) rfl (by kernel_rfl) (by kernel_rfl) (by kernel_rfl) (fun _ _ _ h => h) (Or.inl ⟨by rfl, ?_⟩) hHeld ?_
        rotate_left
        · (intro w hSw; (try dsimp only at hSw); go_simp)
          first | done | with_reducible rfl
        (try simp only [Act.put, List.setIfInBounds_toArray, List.set_cons_zero, List.set_cons_succ])
        refine Pal.held_take (i := 12) (v := ?_) rfl (by kernel_rfl) (by kernel_rfl) (by kernel_rfl) (fun _ _ _ h => h) (Or.inl ⟨by rfl, ?_⟩) hHeld ?_
        rotate_left
        · (intro w hSw; (try dsimp only at hSw); go_simp)
          first | done | with_reducible rfl
        (try simp only [Act.put, List.setIfInBounds_toArray, List.set_cons_zero, List.set_cons_succ])
        refine Pal.held_take (i := 13) (v := ?_) rfl (by kernel_rfl) (by kernel_rfl) (by kernel_rfl) (fun _ _ _ h => h) (Or.inl ⟨by rfl, ?_⟩) hHeld ?_
        rotate_left
        · (intro w hSw; (try dsimp only at hSw); go_simp)
          first | done | with_reducible rfl
        (try simp only [Act.put, List.setIfInBounds_toArray, List.set_cons_zero, List.set_cons_succ])
        refine wpAnyH_done (by kernel_rfl) ?_ _
        refine NoPanic.normal ?_
        have HM2 := Pal.hid (HM.out.keep cd (by simp) (by simp))
        have hsa := set_any HM2.out at0 n0
        have hlen := (show wsm.length = (manyG size gran + 63) / 64 by
          obtain ⟨v, _, _, _, h4, _⟩ := HM.out
          exact h4)
        have HSB := Pal.hid (fun (h : askE size at0 n0 = 0) => setM_bit hlen h)
        have HSN := Pal.hid (fun (h : askE size at0 n0 ≠ 0) => setM_no (ws := wsm) (gran := gran) h)
        have HOKE := Pal.hid (fun (h : askE size at0 n0 = 0) => askE_ok h)
        have HSA := Pal.hid hsa
        have HCD := Pal.hid (HCR.out.trans cd (by simp))
        have HA2 := Pal.hid (HA.out.keep cd (by simp) (by simp))
        have HB2 := Pal.hid (HB.out.keep cd (by simp) (by simp))
        generalize askE size at0 n0 = E at HSA HSB HSN HOKE
        clear hsa hlen hHeld x3 xl e0 e1 cd
        go_wp2_with fail
        refine HSA.out.mono ?_
        rintro e w4 ⟨rfl, hg4, hc4⟩
        have HG4 := Pal.hid hg4
        have HC4 : Hid (Chg [] w0 w4) := HCD.out.trans hc4 (by
          have := HNE.out.2
          rcases HCASE.out with ⟨-, rfl, -⟩ | ⟨-, rfl, -⟩ <;> (simp; omega))
        have HR4 : Hid (∃ wa wb, Gm w4 pA bA size gran wa ∧ Gm w4 pB bB size gran wb) := by
          have hn := HNE.out.1
          rcases HCASE.out with ⟨rfl, rfl, rfl⟩ | ⟨rfl, rfl, rfl⟩
          · exact ⟨_, _, HG4.out, HB2.out.keep hc4 (by simp; omega) (by simp; omega)⟩
          · exact ⟨_, _, HA2.out.keep hc4 (by simp; omega) (by simp; omega), HG4.out⟩
        clear hg4 hc4
        by_cases hE : E = 0
        · have hbit := HSB.out hE
          obtain ⟨ha, hn, hle⟩ := HOKE.out hE
          subst hE
          have HBIT := Pal.hid hbit
          obtain ⟨a, rfl⟩ : ∃ x : Nat, at0 = x := ⟨at0.toNat, by omega⟩
          obtain ⟨n, rfl⟩ : ∃ x : Nat, n0 = x := ⟨n0.toNat, by omega⟩
          simp only [Int.toNat_natCast] at hle
          have hwe : IntKind.i64.wrap ((a : Int) + (n : Int)) = ((a + n : Nat) : Int) := by
            rw [← Int.natCast_add]
            exact IntWalk.i64_in _ (by omega)
          obtain ⟨e9, he9⟩ : ∃ x, x = a + n := ⟨_, rfl⟩
          rw [← he9] at hwe
          clear hbit ha hn
          go_wp2_with (first | (go_at_call 14; refine (num_gr _ _).mono ?_; rintro e w' ⟨rfl, rfl⟩))
          go_loopw [13, 14, 15] (fun pv _ _ wx => ∃ y : Nat, a ≤ y ∧ y ≤ e9 + 99 ∧ pv = z64 y ∧ wx = w4) (fun pv _ _ _ => e9 + 100 - (intOf pv).toNat)
          case atStart => exact ⟨a, Nat.le_refl _, by omega, rfl, rfl⟩
          case round =>
            obtain ⟨y, hy1, hy2, rfl, hwx⟩ := hrel
            subst hwx
            by_cases hye : y < e9
            · have hyi : (y : Int) < e9 := by omega
              have hwy : IntKind.i64.wrap ((y : Int) + 100) = ((y + 100 : Nat) : Int) := IntWalk.i64_in _ (by omega)
              have hhas := has_yes HG4.out y (by omega)
              rw [(HBIT.out _).2 (.inr ⟨y, by omega, by omega, rfl⟩)] at hhas
              have HHAS := Pal.hid hhas
              clear hhas
              go_wp2_with fail
              refine HHAS.out.mono ?_
              rintro e w' ⟨rfl, hw'⟩
              rw [← hw']
              clear hw'
              go_wp2_with (first | (go_at_call 14; refine (num_gr _ _).mono ?_; rintro e w' ⟨rfl, rfl⟩))
              exact ⟨⟨y + 100, by omega, by omega, rfl, by first | trivial | rfl⟩, by simp [intOf]; omega⟩
            · have hyi : ¬ (y : Int) < e9 := by omega
              obtain ⟨wa, wb, hga, hgb⟩ := HR4.out
              have HGA9 := Pal.hid hga
              have HGB9 := Pal.hid hgb
              clear hga hgb
              go_wp2_with fail
              exact ⟨⟨i + 1, wa, wb, by omega, rfl, HGA9, HGB9, HC4⟩, by simp [intOf]; omega⟩
        · have hEb : (E != 0) = true := by simpa using hE
          obtain ⟨wa, wb, hga, hgb⟩ := HR4.out
          have HGA9 := Pal.hid hga
          have HGB9 := Pal.hid hgb
          clear hga hgb
          go_wp2_with (first | (go_at_call 14; refine (num_gr _ _).mono ?_; rintro e w' ⟨rfl, rfl⟩))
          exact ⟨⟨i + 1, wa, wb, by omega, rfl, HGA9, HGB9, HC4⟩, by simp [intOf]; omega⟩
    · obtain rfl : i = l.length := by omega
      have hili : ¬ (l.length : Int) < l.length := by omega
      have HEX := Pal.hid hexit
      clear hexit
      go_wp2_with fail
      exact HEX.out _ _ _ _ _ _ _ _ _ _ _ _ _ _ _ _ _ _ _ _ _ _ _ _ _ _ _ _ _ _ _ _ _ _ _ _ _ _ _ _ _ _ _ _ _ _ _ _ _ _ _ _ _ _ _ _ _ _ _ _ _ _ _ _ wsA wsB HA HB HCR
end Go.Proofs.YtbedjjillioaaaaDoor
