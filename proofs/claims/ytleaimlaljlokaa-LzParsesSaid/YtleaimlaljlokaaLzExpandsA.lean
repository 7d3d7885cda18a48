/- Tokens that came in; Expand of any tokens. -/
import Derived.Test.YtleaimlaljlokaaLzWorks
import Derived.Test.YtleaimlaljlokaaShelf
import Derived.OpenShut
import Derived.Deep.Slices
set_option linter.unusedVariables false
namespace Go.Proofs.Ytleaimlaljlokaa
open Go.RowKit Go.ChangeShapes Go.WideShapes Go.ChangeAt Pal

theorem open_rd {H : Type} {enc : TypeId × Value → H} {P : Program} {W : World} {base t e : Nat} {k : IntKind} {v : Value} {d : DataW H} {p : List MemPlace} (ht : P.underlying t = some (.slice e)) (he : P.underlying e = some (.int k)) (hc : P.cellsOf e = 1)
    (o : Value.okWide P W .any base t v) (h : DataW.Trod enc P W 0 (fun _ => true) true t v d p) :
    ∃ zs : List Int, Rd W 1 v zs.length (zs.map (.int k)) ∧ (∀ n ∈ zs, (Lit.int k n).wf = true) ∧ zs.length ≤ maxLen := by
  obtain ⟨ao, len, cap, rfl⟩ := okWide_slice ht o
  obtain ⟨fuel, hf⟩ := h
  rcases open_ints ht he hc hf with ⟨hcs, hx⟩ | ⟨a, len', cap', zs, hcs, _, hle, hmax, hall, hx, hcell, hwf⟩
  · simp [Value.cells] at hcs
    obtain ⟨rfl, rfl, rfl⟩ := hcs
    exact ⟨[], ⟨none, 0, rfl, by simp, Nat.le_refl _, fun _ => ⟨rfl, rfl⟩, fun a ha => by cases ha⟩, (fun n hn => by cases hn), by simp⟩
  · simp [Value.cells] at hcs
    obtain ⟨rfl, rfl, rfl⟩ := hcs
    simp at hall
    have hlen : (zs.take len).length = len := by simp; omega
    have hrd : Rd W 1 (.slice (some a) len cap) (zs.take len).length ((zs.take len).map (.int k)) := by
      rw [hlen]
      refine ⟨some a, cap, rfl, by simp; omega, hle, (fun h => by cases h), fun a' ha' j u hu => ?_⟩
      obtain rfl : a = a' := by simpa using ha'
      rw [List.getElem?_map, List.getElem?_take] at hu
      split at hu
      · rw [hcell j (by omega)]
        have hj : j < zs.length := by omega
        simp only [List.getElem?_eq_getElem hj, Option.map_some, Option.some.injEq] at hu
        rw [← hu]
        simp [hj]
      · simp at hu
    exact ⟨zs.take len, hrd, fun n hn => hwf n (List.mem_of_mem_take hn), by omega⟩

/-- Bytes that came in. -/
theorem open_bytes {H : Type} {enc : TypeId × Value → H} {W : World} {base : Nat} {v : Value} {d : DataW H} {p : List MemPlace}
    (o : Value.okWide Try.prog W .any base 26 v) (h : DataW.Trod enc Try.prog W 0 (fun _ => true) true 26 v d p) :
    ∃ bs : List Nat, Rd W 1 v bs.length (bs.map b8) ∧ (∀ x ∈ bs, x < 256) ∧ bs.length ≤ maxLen := by
  obtain ⟨zs, h1, h2, h3⟩ := open_rd Try.underlying26 Try.underlying5 (by kernel_rfl) o h
  have hz : ∀ n ∈ zs, ∃ m : Nat, n = m ∧ m < 256 := fun n hn => by
    have := h2 n hn
    simp [Lit.wf, IntKind.min, IntKind.max, IntKind.bits, IntKind.signed] at this
    exact ⟨n.toNat, by omega, by omega⟩
  have he : zs.map (Value.int .u8) = (zs.map Int.toNat).map b8 := by
    rw [List.map_map]
    refine List.map_congr_left fun n hn => ?_
    obtain ⟨m, rfl, _⟩ := hz n hn
    rfl
  refine ⟨zs.map Int.toNat, by rw [List.length_map, ← he]; exact h1, fun x hx => ?_, by rw [List.length_map]; exact h3⟩
  obtain ⟨n, hn, rfl⟩ := List.mem_map.1 hx
  obtain ⟨m, rfl, hm⟩ := hz n hn
  exact hm

instance : Inhabited Tz := ⟨⟨0, 0, 0⟩⟩

/-- Tokens that came in. -/
theorem open_toks {H : Type} {enc : TypeId × Value → H} {W : World} {base : Nat} {v : Value} {d : DataW H} {p : List MemPlace}
    (o : Value.okWide Try.prog W .any base 22 v) (h : DataW.Trod enc Try.prog W 0 (fun _ => true) true 22 v d p) :
    ∃ ts : List Tz, Rd W 3 v ts.length (tzC ts) ∧ (∀ t ∈ ts, t.b < 256) := by
  obtain ⟨ao, len, cap, rfl⟩ := okWide_slice Try.underlying22 o
  obtain ⟨fuel, hf⟩ := h
  rcases Go.Deep.open_slice Try.underlying22 hf with ⟨hcs, hx⟩ | ⟨a, len', cap', m, n, D, Pl, hcs, _, hl, hm, hmm, hx, hall⟩
  · simp [Value.cells] at hcs
    obtain ⟨rfl, rfl, rfl⟩ := hcs
    exact ⟨[], ⟨none, 0, rfl, rfl, Nat.le_refl _, fun _ => ⟨rfl, rfl⟩, fun a h => by cases h⟩, (by simp)⟩
  · simp [Value.cells] at hcs
    obtain ⟨rfl, rfl, rfl⟩ := hcs
    have hmc : m = cap := by simpa using hmm
    have hc3 : Try.prog.cellsOf 25 = 3 := by kernel_rfl
    rw [hc3] at hall
    have ci : Try.prog.cellsOf 3 = 1 := by kernel_rfl
    have cu : Try.prog.cellsOf 5 = 1 := by kernel_rfl
    have each : ∀ i, i < len → ∃ t : Tz, (W.cell? ((a.add (i * 3)).add 0) = some (b8 t.b) ∧ W.cell? ((a.add (i * 3)).add 1) = some (z64 t.l) ∧ W.cell? ((a.add (i * 3)).add 2) = some (z64 t.d)) ∧ t.b < 256 := fun i hi => by
      obtain ⟨cs', e1, e2⟩ := hall i (by omega)
      obtain ⟨_, hlen, hcell⟩ := World.cells?_some e1
      obtain ⟨xs, k, hk, hxy, _, hxl, hff⟩ := DataW.trod_struct Try.underlying25 e2
      match xs, hxl, cs', hlen with
      | [y0, y1, y2], _, [v0, v1, v2], _ =>
        have g0 := hff 0 _ rfl
        have g1 := hff 1 _ rfl
        have g2 := hff 2 _ rfl
        simp [ci, cu] at g0 g1 g2
        obtain ⟨z0, q0, _, b0⟩ := DataW.trod_int Try.underlying5 g0
        obtain ⟨z1, q1, _, b1⟩ := DataW.trod_int Try.underlying3 g1
        obtain ⟨z2, q2, _, b2⟩ := DataW.trod_int Try.underlying3 g2
        have q0 : v0 = .int .u8 z0 := by simpa using q0
        have q1 : v1 = z64 z1 := by simpa using q1
        have q2 : v2 = z64 z2 := by simpa using q2
        have b0' : 0 ≤ z0 ∧ z0 < 256 := by
          simp [Lit.wf, IntKind.min, IntKind.max, IntKind.bits, IntKind.signed] at b0
          omega
        obtain ⟨z0, rfl⟩ := Int.eq_ofNat_of_zero_le b0'.1
        subst q0 q1 q2
        have f0 := hcell 0 (by omega)
        have f1 := hcell 1 (by omega)
        have f2 := hcell 2 (by omega)
        exact ⟨⟨z0, z1, z2⟩, ⟨f0, f1, f2⟩, by show z0 < 256; omega⟩
    rcases Nat.eq_zero_or_pos len with rfl | hpos
    · exact ⟨[], ⟨some a, cap, rfl, rfl, Nat.zero_le _, (fun h => by cases h), fun a' _ j u hu => by simp [tzC] at hu⟩, by simp⟩
    obtain ⟨ab, ao, spot⟩ := a
    obtain rfl : spot = none := by
      obtain ⟨cs0, e3, _⟩ := hall 0 (by omega)
      obtain ⟨_, hl0, hc0⟩ := World.cells?_some e3
      have h0 := hc0 0 (by omega)
      rw [List.getElem?_eq_getElem (by omega)] at h0
      simpa [Addr.add] using World.cell?_spot h0
    obtain ⟨cs, hcs⟩ := Go.Deep.choose_lt each
    have hts : ∀ i, i < len → ((List.range len).map cs)[i]? = some (cs i) := fun i hi => by simp [hi]
    have hln : ((List.range len).map cs).length = len := by simp
    refine ⟨(List.range len).map cs, ?_, fun t ht => ?_⟩
    · refine ⟨some ⟨ab, ao, none⟩, cap, by rw [hln], length_tzC _, by rw [hln]; omega, (fun h => by cases h), fun a' ha' j u hu => ?_⟩
      obtain rfl : (⟨ab, ao, none⟩ : Addr) = a' := by simpa using ha'
      have hj : j < len * 3 := by
        have := (List.getElem?_eq_some_iff.1 hu).1
        rw [length_tzC, hln] at this
        exact this
      obtain ⟨h0, h1, h2⟩ := tzC_at ((List.range len).map cs) (j / 3) (by rw [hln]; omega)
      obtain ⟨⟨k0, k1, k2⟩, _⟩ := hcs (j / 3) (by omega)
      have hg : ((List.range len).map cs)[j / 3]'(by rw [hln]; omega) = cs (j / 3) := by simp
      rw [hg] at h0 h1 h2
      have hadd : ∀ (x y : Nat), ((⟨ab, ao, none⟩ : Addr).add x).add y = (⟨ab, ao, none⟩ : Addr).add (x + y) := fun x y => by
        rw [addr_add, addr_add, addr_add, Nat.add_assoc]
      rw [hadd] at k0 k1 k2
      have hr : j % 3 = 0 ∨ j % 3 = 1 ∨ j % 3 = 2 := by omega
      rcases hr with e | e | e
      · have : j = j / 3 * 3 + 0 := by omega
        rw [this] at hu ⊢
        rw [Nat.add_zero] at hu
        rw [h0] at hu
        rw [k0, hu]
      · have : j = j / 3 * 3 + 1 := by omega
        rw [this] at hu ⊢
        rw [h1] at hu
        rw [k1, hu]
      · have : j = j / 3 * 3 + 2 := by omega
        rw [this] at hu ⊢
        rw [h2] at hu
        rw [k2, hu]
    · obtain ⟨i, hi, rfl⟩ := List.mem_map.1 ht
      exact (hcs i (by simpa using hi)).2

def toTk (t : Tz) : Tk := ⟨t.b, t.l.toNat, t.d.toNat⟩
theorem okB_iff {t : Tz} : t.okB = true ↔ (t.l = 0 ∧ t.d = 0) ∨ (t.b = 0 ∧ 3 ≤ t.l ∧ t.l ≤ 258 ∧ 1 ≤ t.d ∧ t.d ≤ 32768) := by
  simp only [Tz.okB, Bool.or_eq_true, Bool.and_eq_true, decide_eq_true_eq]
  omega
theorem tz_toTk {t : Tz} (h : t.okB = true) : tz (toTk t) = t := by
  have := okB_iff.1 h
  obtain ⟨b, l, d⟩ := t
  simp only [tz, toTk, Tz.mk.injEq, true_and]
  simp only at this
  omega
theorem toTk_ok {t : Tz} (h : t.okB = true) (hb : t.b < 256) : (toTk t).ok := by
  have := okB_iff.1 h
  refine ⟨hb, ?_⟩
  simp only [toTk]
  omega

/-- What Expand answers, of any tokens, any bound. -/
def expandZ (most : Int) (ts : List Tz) : Pal.Told := if most < 0 then ⟨[], 0, 2⟩ else if checksCode ts = 0 then expandG most.toNat 0 [] (ts.map toTk) else ⟨[], 0, checksCode ts⟩

theorem all_of_code {ts : List Tz} (h : checksCode ts = 0) : (∀ t ∈ ts, t.okB = true) ∧ ts.length ≤ 1048576 := by
  unfold checksCode at h
  split at h
  · rename_i ha
    refine ⟨List.all_eq_true.1 ha, ?_⟩
    split at h
    · simp at h
    · omega
  · simp at h
theorem map_back {ts : List Tz} (h : ∀ t ∈ ts, t.okB = true) : (ts.map toTk).map tz = ts := by
  rw [List.map_map]
  conv => rhs; rw [← List.map_id ts]
  exact List.map_congr_left fun t ht => tz_toTk (h t ht)

theorem expand_all (most : Int) (v : Value) (ts : List Tz) (w : World) (hrd : Rd w 3 v ts.length (tzC ts)) (hb : ∀ t ∈ ts, t.b < 256) (hl : ts.length ≤ 1099511627776) (hm : most ≤ 9223372036854775807) :
    Calls Try.prog 10 #[z64 most, v] w fun e w' => ∃ bv, e = .returned (.tuple #[bv, z64 (expandZ most ts).n, z64 (expandZ most ts).code]) ∧ Own w' 5 1 bv (expandZ most ts).bytes.length ((expandZ most ts).bytes.map b8) ∧ New w bv ∧ Chg [] w w' := by
  by_cases h0 : most < 0
  · have hz : expandZ most ts = ⟨[], 0, 2⟩ := if_pos h0
    rw [hz]
    obtain ⟨ao, cap, rfl, _⟩ := hrd
    go_enter Try.func10, Try.ntmps10
    go_wp2_with fail
    go_ret3
    exact ⟨.slice none 0 0, rfl, own_nil _ _ _, New.nil _, Chg.refl _ _⟩
  · by_cases hc : checksCode ts = 0
    · have hz : expandZ most ts = expandG most.toNat 0 [] (ts.map toTk) := by unfold expandZ; rw [if_neg h0, if_pos hc]
      rw [hz]
      obtain ⟨hall, hlen⟩ := all_of_code hc
      obtain ⟨m, rfl⟩ := Int.eq_ofNat_of_zero_le (show 0 ≤ most by omega)
      rw [Int.toNat_natCast]
      refine expand_any m v (ts.map toTk) w ?_ (fun t ht => ?_) (by rw [List.length_map]; exact hlen) (by omega)
      · rw [List.length_map, toksC_tz, map_back hall]; exact hrd
      · obtain ⟨x, hx, rfl⟩ := List.mem_map.1 ht
        exact toTk_ok (hall x hx) (hb x hx)
    · have hz : expandZ most ts = ⟨[], 0, checksCode ts⟩ := by unfold expandZ; rw [if_neg h0, if_neg hc]
      rw [hz]
      have HC := Pal.hid (checks_any v ts w hrd hl)
      obtain ⟨ao, cap, rfl, _⟩ := hrd
      obtain ⟨c, hcc⟩ : ∃ c, c = checksCode ts := ⟨_, rfl⟩
      rw [← hcc] at hc HC ⊢
      clear hcc hz
      go_enter Try.func10, Try.ntmps10
      go_wp2_with fail
      refine HC.out.mono ?_
      rintro e w1 ⟨rfl, hc1⟩
      go_wp2_with fail
      go_ret3
      exact ⟨.slice none 0 0, rfl, own_nil _ _ _, New.nil _, hc1⟩
end Go.Proofs.Ytleaimlaljlokaa
