/- A heap of trees: the methods behind the interface; the list in memory. -/
import Derived.Test.YtjmnmpelbikjjaaProg
import Derived.Test.YtjmnmpelbikjjaaBase
import Derived.Test.YtjmnmpelbikjjaaRegionMid
import Derived.Test.YtjmnmpelbikjjaaHeapMath
import Derived.Test.YtjmnmpelbikjjaaShelf
import Derived.Outline
import Derived.WalkLawsBesides
import Derived.IntWalk
import Derived.BigQuiet
import Derived.BigRegion
import Derived.RegionTactic
import Derived.Deep.QuietTactic
set_option linter.unusedVariables false
namespace Pal
open Go
theorem run_info {P : Program} {w : World} {t : TypeId} {i : TypeInfo} (h : P.info? t = some i) : (typeInfo t).run P w = .ok i w := by
  simp [typeInfo, Sem.run_bind, h]
/-- What a type's table says of a method. -/
def row (P : Program) (T : Nat) (name : String) : Option (Nat × Option (Nat × Bool)) := (P.info? T).bind fun i => (i.methods.find? (·.name == name)).map fun r => (r.path.size, r.func)
theorem row_some {P : Program} {T : Nat} {name : String} {q : Option (Nat × Bool)} (h : row P T name = some (0, q)) : ∃ i r, P.info? T = some i ∧ i.methods.find? (·.name == name) = some r ∧ r.path = #[] ∧ r.func = q := by
  unfold row at h
  cases hi : P.info? T with
  | none => rw [hi] at h; cases h
  | some i =>
    rw [hi] at h
    simp only [Option.bind_some] at h
    cases hr : i.methods.find? (·.name == name) with
    | none => rw [hr] at h; cases h
    | some r =>
      rw [hr] at h
      simp only [Option.map_some, Option.some.injEq, Prod.mk.injEq] at h
      exact ⟨i, r, rfl, hr, Array.eq_empty_of_size_eq_zero h.1, h.2⟩
theorem chk_run {P : Program} {w : World} (ts : Array TypeId) (t : TypeId) (a : Addr) (x y : String) : (Builtin.ssaWrapNilChk_ ts t #[.pointer (some a), strVal x, strVal y]).run P w = .ok (.pointer (some a)) w := rfl
/-- A method with a value's receiver, by a pointer: it is loaded. -/
theorem meth_deref {P : Program} {T elem f : Nat} {name : String} (w : World) (h : row P T name = some (0, some (f, false))) (hu : P.underlying T = some (.pointer elem)) (a : Addr) (v : Value) (hl : (loadVar elem a).run P w = .ok v w) (k : Nat) :
    (method (k + 1) T (.pointer (some a)) name).run P w = .ok (f, v) w := by
  obtain ⟨i, r, hi, hm, hp, hf⟩ := row_some h
  unfold method
  simp only [Sem.run_bind, run_info hi, Result.andThen_ok, hm, hp, hf]
  simp [follow, receiverAt, Sem.run_bind, run_underlying hu, Place.get, chk_run, asAddr, hl]
/-- A method with a pointer's receiver. -/
theorem meth_ptr {P : Program} {T elem f : Nat} {name : String} (w : World) (h : row P T name = some (0, some (f, true))) (hu : P.underlying T = some (.pointer elem)) (a : Addr) (k : Nat) :
    (method (k + 1) T (.pointer (some a)) name).run P w = .ok (f, .pointer (some a)) w := by
  obtain ⟨i, r, hi, hm, hp, hf⟩ := row_some h
  unfold method
  simp only [Sem.run_bind, run_info hi, Result.andThen_ok, hm, hp, hf]
  simp [follow, receiverAt, Sem.run_bind, run_underlying hu, Place.get]
end Pal
namespace Go.Proofs.Ytjmnmpelbikjjaa
open Go.RowKit Pal Pal.Hp
theorem rowLen : row Try.prog 91 "Len" = some (0, some (109, false)) := by kernel_rfl
theorem rowLess : row Try.prog 91 "Less" = some (0, some (110, false)) := by kernel_rfl
theorem rowSwap : row Try.prog 91 "Swap" = some (0, some (111, false)) := by kernel_rfl
theorem rowPop : row Try.prog 91 "Pop" = some (0, some (113, true)) := by kernel_rfl
theorem rowPush : row Try.prog 91 "Push" = some (0, some (114, true)) := by kernel_rfl
theorem undTs : Try.prog.underlying 91 = some (.pointer 86) := by kernel_rfl

/-- The list's value in memory. -/
theorem load_ts {w : World} {p : Nat} {v : Value} {ao : Option Addr} {n cap : Nat} (hv : v = .slice ao n cap) (h : w.cell? ⟨p, 0, none⟩ = some v) : (loadVar 86 ⟨p, 0, none⟩).run Try.prog w = .ok v w := by
  subst hv
  simp [loadVar, h]
  done
end Go.Proofs.Ytjmnmpelbikjjaa
