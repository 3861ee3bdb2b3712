/- Own library, part Ud: slices that are never written again, inside of elements. -/
import Derived.Test.YtgdhjjdgghilhaaGreatGlUc
set_option linter.unusedVariables false
set_option linter.unusedSimpArgs false
namespace GL
open Go

variable {S S' : Nat → Prop} {w w' w0 : World} {v : Value} {T T' : TypeId} {rs rs' : List Res} {P : Program}

abbrev FZ := Value × List Bool
def FzP (bs : List FZ) (v : Value) (x : List Bool) : Prop := (v = .slice none 0 0 ∧ x = []) ∨ ((v, x) ∈ bs ∧ ∃ p l c, v = .slice p l c)
variable {bs : List FZ} {x y : List Bool}
theorem FzP.nil (bs : List FZ) : FzP bs (.slice none 0 0) [] := .inl ⟨rfl, rfl⟩
theorem FzP.up (h : FzP bs v x) (b : FZ) : FzP (bs ++ [b]) v x := by
  rcases h with h | ⟨h, h2⟩
  · exact .inl h
  · exact .inr ⟨List.mem_append_left _ h, h2⟩
theorem FzP.sh (h : FzP bs v x) : ∃ p l c, v = .slice p l c := by
  rcases h with ⟨rfl, _⟩ | ⟨_, h2⟩
  · exact ⟨_, _, _, rfl⟩
  · exact h2
def RdF (S : Nat → Prop) (w : World) (bs : List FZ) : Prop := ∀ p ∈ bs, RdS Ek.bool S w p.1 p.2
theorem RdF.mono (h : RdF S w bs) (hs : ∀ k, S k → S' k) : RdF S' w bs := fun p hp => (h p hp).mono hs
theorem RdF.now (h : RdF S w0 bs) (hp : Hp S w0 w rs) : RdF S w bs := fun p hq => (h p hq).now hp
theorem RdF.any (h : RdF S w bs) : RdF (fun _ => True) w bs := h.mono fun _ _ => trivial
theorem RdF.ara (h : RdF S w0 bs) (hp : Hp S w0 w rs) : RdF (fun _ => True) w bs := (h.now hp).any
theorem FzP.rd (h : FzP bs v x) (hA : RdF S w bs) : RdS Ek.bool S w v x := by
  rcases h with ⟨rfl, rfl⟩ | ⟨h, _⟩
  · exact RdS.nil _ _ _
  · exact hA _ h
theorem star_imp {l l' : List Res} (hl : l'.length = l.length) (h : ∀ (i : Nat) (r' : Res), l'[i]? = some r' → ∃ r, l[i]? = some r ∧ ∀ fp w, r.own fp w → r'.own fp w) (fp : Nat → Prop) (w : World) (ho : (Res.star l).own fp w) : (Res.star l').own fp w := by
  obtain ⟨f, h1, h2, h3⟩ := ho
  refine ⟨f, fun i r' hr => ?_, fun i j k hi hj => h2 i j k (by omega) (by omega), fun k => by rw [h3 k, hl]⟩
  obtain ⟨r, k1, k2⟩ := h i r' hr
  exact k2 _ _ (h1 i r k1)
theorem rows_imp {β : Type} {K K' : RowK β} (h : ∀ (u : Value) (y : β) fp w, (K.R u y).own fp w → (K'.R u y).own fp w) {vs : List Value} {ys : List (Option β)} (fp : Nat → Prop) (w : World) (ho : (Res.rowsH K T v vs ys).own fp w) : (Res.rowsH K' T v vs ys).own fp w := by
  refine star_imp (by simp) (fun i r' hr => ?_) fp w ho
  cases i with
  | zero => exact ⟨_, rfl, by simp at hr; subst hr; exact fun _ _ h => h⟩
  | succ i =>
    cases i with
    | zero => exact ⟨_, rfl, by simp at hr; subst hr; exact fun _ _ h => h⟩
    | succ i =>
      simp only [List.getElem?_cons_succ, List.getElem?_zipWith] at hr ⊢
      cases hv : vs[i]? with
      | none => rw [hv] at hr; simp at hr
      | some u =>
        cases hy : ys[i]? with
        | none => rw [hv, hy] at hr; simp at hr
        | some o =>
          rw [hv, hy] at hr
          simp at hr
          refine ⟨K.rO u o, by simp, ?_⟩
          subst hr
          cases o with
          | none => exact fun _ _ h => h
          | some y => exact h u y
theorem ImpL.rows {α : Type} {E E' : Ek α} {e0 : TypeId} {vs : List Value} {ys : List (Option (List α))} (hn : E.n = E'.n) (hE : ∀ vs x, E.rep vs x → E'.rep vs x) (h : ImpL rs rs') : ImpL (Res.rowsH (RowK.sl E e0) T v vs ys :: rs) (Res.rowsH (RowK.sl E' e0) T v vs ys :: rs') :=
  .cons (rows_imp fun u y fp w => slx_imp hn hE fp w) h

section ops
variable {n : Nat} {a : Act} {L : List (Nat × Value)} {ops : Array Oper} {Q : Exit → Act → World → Prop}
  {rest : List Oper} {d : Nat} {ty : TypeId} {pos : String} {af : Array Edge} {g : Option (Nat × Bool)}
  {t t' e : TypeId} {xo yo : Operand} {k k' : IntKind} {p q : Int} {u : Value}
end ops
end GL
