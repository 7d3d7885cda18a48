/- Blocks of a list in stable order: plain. No program in sight. -/
import Derived.Test.YtiijhaajaglabaaSortMath
namespace Pal.So
section
variable {α : Type} {key : α → Int}

/-- The one lists, the other lists, one behind the other. -/
def fs {T : Type} (F : List (List T × List T)) : List T := (F.map Prod.fst).flatten
def sn {T : Type} (F : List (List T × List T)) : List T := (F.map Prod.snd).flatten
section
variable {T : Type} {F : List (List T × List T)} {p : List T × List T}
theorem fs_nil : fs ([] : List (List T × List T)) = [] := rfl
theorem sn_nil : sn ([] : List (List T × List T)) = [] := rfl
theorem fs_cons : fs (p :: F) = p.1 ++ fs F := rfl
theorem sn_cons : sn (p :: F) = p.2 ++ sn F := rfl
theorem fs_snoc : fs (F ++ [p]) = fs F ++ p.1 := by simp [fs]
theorem sn_snoc : sn (F ++ [p]) = sn F ++ p.2 := by simp [sn]
theorem length_fs {k : Nat} : ∀ {F : List (List T × List T)}, (∀ p ∈ F, p.1.length = k) → (fs F).length = F.length * k
  | [], _ => by simp [fs]
  | p :: F, h => by
    rw [fs_cons, List.length_append, length_fs (fun q hq => h q (by simp [hq])), h p (by simp), List.length_cons, Nat.add_mul]
    omega
end
/-- A block: what it was, stably ordered. -/
def Bk (key : α → Int) (p : List (α × Nat) × List (α × Nat)) : Prop := p.1.Perm p.2 ∧ Sorted key p.1
theorem fs_perm {F : List (List (α × Nat) × List (α × Nat))} (h : ∀ p ∈ F, Bk key p) : (fs F).Perm (sn F) := by
  induction F with
  | nil => exact List.Perm.refl _
  | cons p F ih =>
    rw [fs_cons, sn_cons]
    exact (h p (by simp)).1.append (ih fun q hq => h q (by simp [hq]))
/-- The tags rise: so a part is ahead of what is behind it. -/
abbrev Tags (l : List (α × Nat)) : Prop := l.Pairwise fun x y => x.2 < y.2
theorem ahead_of {A L R C L' R' : List (α × Nat)} (h : Tags (A ++ (L ++ (R ++ C)))) (hL : L'.Perm L) (hR : R'.Perm R) : Ahead L' R' := by
  have h1 := (List.pairwise_append.1 h).2.1
  have h2 := (List.pairwise_append.1 h1).2.2
  exact Ahead.perm (fun x hx y hy => h2 x hx y (by simp [hy])) hL hR
end
end Pal.So
