/- Own library, part X: one slice copied over another. -/
import Derived.Test.YtgdhjjdgghilhaaGlT
import Derived.Laws.CopyRow
import Derived.Laws.IdiomCopy
set_option linter.unusedVariables false
set_option linter.unusedSimpArgs false
namespace GL
open Go Go.Lib

variable {α : Type} {E : Ek α} {S S' : Nat → Prop} {w w' w0 : World} {v : Value} {xs ys sp : List α} {T : TypeId} {rs : List Res} {P : Program}
  {n : Nat} {a : Act} {L : List (Nat × Value)} {ops : Array Oper} {Q : Exit → Act → World → Prop}
  {rest : List Oper} {d : Nat} {ty : TypeId} {pos : String} {af : Array Edge} {g : Option (Nat × Bool)}
  {t t' e : TypeId} {x y : Operand} {bytes : Nat} {z0 : α} {i : Nat}

theorem st_copySl {vy : Value} (hn1 : E.n = 1) (hf : Fr n a L) (hd : d < n) (hE : ElT P E e bytes z0) (ht : P.underlying t = some (.slice e))
    (hp : Hp S w0 w rs) (hi' : rs[i]? = some (Res.slx E T v xs sp)) (hs : Sl E w vy ys)
    (hw : Region.wanted ⟨some d, .call ⟨.builtin .copy, #[x, y], #[t, t']⟩, ty, pos, af, g⟩ (yielded ops a.tmps) = true)
    (hx : evL L x = some v) (hy : evL L y = some vy)
    (h : ∀ a' w', Fr n a' ((d, .int .i64 ((min ys.length xs.length : Nat) : Int)) :: L) → Hp S w0 w' (rs.set i (Res.slx E T v (ys.take xs.length ++ xs.drop ys.length) sp)) → wpList P ops Q rest a' w') :
    wpList P ops Q (⟨some d, .call ⟨.builtin .copy, #[x, y], #[t, t']⟩, ty, pos, af, g⟩ :: rest) a w := by
  obtain ⟨inf, zz, i1, i2, i3, i4, i5⟩ := hE.out
  have hsz : (P.info? e).map (·.size) = some 1 := by simp [i1, i3, hn1]
  by_cases h0 : min ys.length xs.length = 0
  · have hb : ys.take xs.length ++ xs.drop ys.length = xs := by
      by_cases hy0 : ys.length = 0
      · have : ys = [] := List.eq_nil_of_length_eq_zero hy0
        subst this; simp
      · have : xs = [] := List.eq_nil_of_length_eq_zero (by omega)
        subst this; simp
    rw [hb, h0] at h
    obtain ⟨A, cap, rfl, _⟩ := hp.shape hi'
    obtain ⟨B, cap', rfl, _⟩ := hs.shape
    have hr := run_copy_none (P := P) w t t' ty e A B xs.length cap ys.length cap' ht hsz h0
    have hset : rs.set i (Res.slx E T (.slice A xs.length cap) xs sp) = rs := by
      apply List.ext_getElem?
      intro j
      by_cases hj : i = j
      · subst hj
        rw [List.getElem?_set_self (List.getElem?_eq_some_iff.1 hi').1, hi']
      · rw [List.getElem?_set_ne hj]
    rw [hset] at h
    refine st_run (v := .int .i64 0) (w' := w) hf hw rfl hd ?_ fun a' _ hf' => h a' w hf' hp
    simp [execOp, resolve, invoke, builtin, hf.ev hx, hf.ev hy, Result.andThen, hr, goInt]
  · obtain ⟨fp, ho, _, K⟩ := hp.take hi'
    rcases ho with ⟨_, rfl, _⟩ | ⟨b, o', cap, cur, rfl, h2, h3, h4, h5, h6, h7⟩
    · rw [List.length_nil, Nat.min_zero] at h0; omega
    obtain ⟨B, cap', rfl, k1, k2, k3⟩ := hs
    obtain ⟨b2, o2, cs, rfl, _, e3, e4⟩ := k3 (by omega)
    simp only [List.length_append] at h4
    rw [hn1, Nat.mul_one] at h6
    obtain ⟨m, hm⟩ : ∃ m, m = min ys.length xs.length := ⟨_, rfl⟩
    have hcl : cs.length = ys.length := by rw [e3.1, hn1, Nat.mul_one]
    have e3' := reps_sub e3 0 m (by omega)
    rw [hn1, Nat.mul_one, Nat.zero_mul, List.drop_zero, List.drop_zero] at e3'
    have hcl' : (cs.take m).length = m := by rw [List.length_take]; omega
    have hr := run_copy_row (P := P) w t t' ty e b o' xs.length cap ⟨b2, o2, none⟩ ys.length cap' cur T (cs.take m) ht hsz h3 (by rw [hcl', hm]) (fun j u hj => by
      have hjm : j < m := by have := (List.getElem?_eq_some_iff.1 hj).1; omega
      have := e4 j (by omega)
      rw [List.getElem?_take_of_lt hjm] at hj
      rw [hj] at this
      rw [Addr.add_lit]; exact this) (by omega) (ones_of_reps e3')
    refine st_run (v := .int .i64 ((min ys.length xs.length : Nat) : Int)) (w' := w.setRow b (cur.toList.take o' ++ cs.take m ++ cur.toList.drop (o' + (cs.take m).length)).toArray) hf hw rfl hd ?_
      fun a' _ hf' => h a' _ hf' (K _ _ fp (chg_setRow w b _ ((h2 b).2 rfl)) ?_ (fun k hk => .inl hk))
    · simp [execOp, resolve, invoke, builtin, hf.ev hx, hf.ev hy, Result.andThen]
      simp at hr
      simp [hr, goInt, Result.andThen]
      omega
    · have hxl : (ys.take xs.length ++ xs.drop ys.length).length = xs.length := by simp only [List.length_append, List.length_take, List.length_drop]; omega
      refine .inr ⟨b, o', cap, _, by rw [hxl], h2, setRow_heap w b cur _ T _ h3, by rw [List.length_append, hxl]; omega, h5, ?_, ?_⟩
      · simp only [List.size_toArray, List.length_append, List.length_take, List.length_drop, Array.length_toList, hn1, Nat.mul_one]
        omega
      · have hcur : cap ≤ (cur.toList.drop o').length := by simp only [List.length_drop, Array.length_toList]; omega
        have h8 := reps_append e3' (reps_sub h7 m (xs.length + sp.length - m) (by rw [List.length_append]; omega))
        rw [hn1, Nat.mul_one, Nat.mul_one, Nat.mul_one, List.length_append] at h8
        have e9 : (ys.take xs.length ++ xs.drop ys.length) ++ sp = ys.take m ++ ((xs ++ sp).drop m).take (xs.length + sp.length - m) := by
          rw [List.take_of_length_le (l := (xs ++ sp).drop m) (by simp), List.drop_append_of_le_length (by omega), ← List.append_assoc]
          congr 1
          by_cases hle : ys.length ≤ xs.length
          · rw [hm, Nat.min_eq_left hle, List.take_of_length_le hle, List.take_length]
          · rw [hm, Nat.min_eq_right (by omega), List.drop_eq_nil_of_le (by omega), List.drop_length]
        rw [List.length_append, hxl, hn1, Nat.mul_one, e9]
        have e10 : ((List.take o' cur.toList ++ cs.take m ++ cur.toList.drop (o' + (cs.take m).length)).toArray.toList.drop o').take (xs.length + sp.length) = cs.take m ++ List.take (xs.length + sp.length - m) (List.drop m ((cur.toList.drop o').take (xs.length + sp.length))) := by
          have e11 := splice_drop cur.toList (cs.take m) o' 0 m (by simp only [Array.length_toList]; omega)
          rw [Nat.add_zero, Nat.zero_add, List.take_zero, List.nil_append] at e11
          rw [List.toList_toArray, hcl', e11, List.take_append, hcl', List.take_of_length_le (l := cs.take m) (by omega), List.drop_take]
          rw [List.take_take, Nat.min_self]
        rw [e10]
        exact h8
/-! ### A store at an index of a small array -/
/-! ### '==' of small arrays -/
end GL
