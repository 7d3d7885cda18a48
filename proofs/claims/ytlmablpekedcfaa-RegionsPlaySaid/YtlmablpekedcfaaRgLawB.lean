/- Regions, plain: what RegionsOrder and RegionsMove ask, step by step. -/
import Derived.Test.YtlmablpekedcfaaRgGap
namespace Pal.Rg
theorem apart_drop {S : List Reg} (h : Apart S) (i : Nat) : Apart (S.drop i) :=
  ⟨fun x hx => h.1 x (List.mem_of_mem_drop hx), h.2.sublist (List.drop_sublist _ _)⟩
/-- One more is put, from behind. -/
theorem order_put {O S : List Reg} {i : Nat} (hi : i < S.length) (h : Ok O) (hp : O.Perm (S.drop (i + 1))) (ha : Apart S) (hl : S.length ≤ 60) :
    May S[i] ∧ putQ O S[i] = 0 ∧ Ok (putL O S[i]) ∧ (putL O S[i]).Perm (S.drop i) := by
  have hd : S.drop i = S[i] :: S.drop (i + 1) := List.drop_eq_getElem_cons hi
  have ha2 : Apart (S[i] :: O) := apart_perm (by rw [hd]; exact List.Perm.cons _ hp.symm) (apart_drop ha i)
  have hm : May S[i] := ha.1 _ (List.getElem_mem hi)
  have hln := hp.length_eq
  rw [List.length_drop] at hln
  refine ⟨hm, putQ_free h (by omega) ha2, putL_ok h hm (free_of h ha2), (putL_perm _ _).trans ?_⟩
  rw [hd]
  exact List.Perm.cons _ hp
/-- One more is taken, from the front. -/
theorem order_take {O S : List Reg} {i : Nat} (hi : i < S.length) (h : Ok O) (hp : O.Perm (S.drop i)) :
    takeR O (st S[i]) = (S[i], 0, (takeR O (st S[i])).2.2) ∧ Ok (takeR O (st S[i])).2.2 ∧ (takeR O (st S[i])).2.2.Perm (S.drop (i + 1)) ∧ ofL (takeR O (st S[i])).2.2 (st S[i]) = none := by
  have hd : S.drop i = S[i] :: S.drop (i + 1) := List.drop_eq_getElem_cons hi
  rw [hd] at hp
  obtain ⟨t1, t2, t3⟩ := taken h hp
  exact ⟨t1, takeR_ok h _, t2, t3⟩
/-- All at once. -/
theorem order_all {R S : List Reg} (h : Ok R) (hp : R.Perm S) (hl : R.length ≤ 60) : putsQ [] S 0 = (S.length, 0, R) := by
  have hln := hp.length_eq
  obtain ⟨R', e, i1, i2⟩ := puts_all (M := S) (R := []) 0 Ok.nil (by rw [List.append_nil]; exact apart_perm hp (ok_apart h)) (by simp; omega)
  rw [List.append_nil] at i2
  rw [e, ok_eq i1 h (i2.trans hp.symm), Nat.zero_add]
end Pal.Rg
