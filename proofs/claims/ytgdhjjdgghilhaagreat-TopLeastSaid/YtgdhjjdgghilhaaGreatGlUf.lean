/- Own library, part Uf: copying over an array that is a part of an element. -/
import Derived.Test.YtgdhjjdgghilhaaGreatGlUe
set_option linter.unusedVariables false
set_option linter.unusedSimpArgs false
namespace GL
open Go
variable {α β γ : Type} {E : Ek α} {F : Ek β} {S S' : Nat → Prop} {w w' w0 : World} {v : Value} {xs sp : List α} {T : TypeId} {rs : List Res} {P : Program}
variable {n : Nat} {a : Act} {L : List (Nat × Value)} {ops : Array Oper} {Q : Exit → Act → World → Prop}
  {rest : List Oper} {d : Nat} {ty : TypeId} {pos : String} {af : Array Edge} {g : Option (Nat × Bool)}
  {t t' e : TypeId} {x y : Operand} {i o : Nat} {p : Int} {u : Value}
theorem part_set [Inhabited α] {gg : α → β} {s : α → β → α} (A : Sub E F o gg s) {cur : Array Value} {o' cap : Nat} (h4 : (xs ++ sp).length ≤ cap) (h6 : o' + cap * E.n ≤ cur.size)
    (h7 : E.reps ((cur.toList.drop o').take ((xs ++ sp).length * E.n)) (xs ++ sp)) {ds : List Value} {y' : β} (hu : F.rep ds y') (h0 : 0 ≤ p) (h1 : p < xs.length) :
    E.reps (((cur.toList.take (o' + (p.toNat * E.n + o)) ++ ds ++ cur.toList.drop (o' + (p.toNat * E.n + o) + ds.length)).drop o').take ((xs.set p.toNat (s (gt xs p) y') ++ sp).length * E.n)) (xs.set p.toNat (s (gt xs p) y') ++ sp) := by
  have hlen := F.len _ _ hu
  have hfit := A.fit
  have hpl : p.toNat < (xs ++ sp).length := by simp; omega
  have hb : p.toNat * E.n + E.n ≤ (xs ++ sp).length * E.n := by rw [← Nat.succ_mul]; exact Nat.mul_le_mul_right _ (by omega)
  have hb2 : (xs ++ sp).length * E.n ≤ cap * E.n := Nat.mul_le_mul_right _ h4
  have hgt : (xs ++ sp)[p.toNat]? = some (gt xs p) := by rw [List.getElem?_append_left (by omega)]; exact gt_of h0 h1
  have hel := h7.2 _ _ hgt
  have hnew := A.set _ _ _ _ hel hu
  generalize hO : p.toNat * E.n = O at *
  generalize hM : (xs ++ sp).length * E.n = M at *
  have hcl : cap * E.n ≤ (cur.toList.drop o').length := by simp only [List.length_drop, Array.length_toList]; omega
  have := reps_set h7 hnew p.toNat hpl
  rw [List.set_append_left _ _ (by omega), hO] at this
  refine cast (congrArg (fun c => E.reps c _) ?_) this
  have e1 : (xs.set p.toNat (s (gt xs p) y') ++ sp).length * E.n = M := by rw [← hM]; simp
  rw [e1]
  simp only [hlen]
  rw [splice_drop _ _ _ _ _ (by simp only [Array.length_toList]; omega)]
  generalize cur.toList.drop o' = C at hcl h7 ⊢
  apply List.ext_getElem?
  intro j
  simp only [List.getElem?_append, List.length_append, List.length_take, List.length_drop, List.getElem?_take, List.getElem?_drop, hlen]
  by_cases c0 : j < M
  case neg =>
    simp only [c0, if_false, show ¬ j < min O (min M C.length) + (min o (min E.n (min M C.length - O)) + F.n + (min E.n (min M C.length - O) - (o + F.n))) from by omega, show ¬ O + E.n + (j - (min O (min M C.length) + (min o (min E.n (min M C.length - O)) + F.n + (min E.n (min M C.length - O) - (o + F.n))))) < M from by omega]
  by_cases c1 : j < O
  · simp only [c0, c1, if_true, show j < min O (min M C.length) + (min o (min E.n (min M C.length - O)) + F.n + (min E.n (min M C.length - O) - (o + F.n))) from by omega, show j < min O (min M C.length) from by omega, show j < min (O + o) C.length + F.n from by omega, show j < min (O + o) C.length from by omega, show j < O + o from by omega]
  by_cases c2 : j < O + o
  · simp only [c0, c1, c2, if_true, if_false, show j < min O (min M C.length) + (min o (min E.n (min M C.length - O)) + F.n + (min E.n (min M C.length - O) - (o + F.n))) from by omega, show ¬ j < min O (min M C.length) from by omega, show j - min O (min M C.length) < min o (min E.n (min M C.length - O)) + F.n from by omega, show j - min O (min M C.length) < min o (min E.n (min M C.length - O)) from by omega, show j - min O (min M C.length) < o from by omega, show j - min O (min M C.length) < E.n from by omega, show O + (j - min O (min M C.length)) = j from by omega, show j < min (O + o) C.length + F.n from by omega, show j < min (O + o) C.length from by omega]
  by_cases c3 : j < O + o + F.n
  · simp only [c0, if_true, if_false, show j < min O (min M C.length) + (min o (min E.n (min M C.length - O)) + F.n + (min E.n (min M C.length - O) - (o + F.n))) from by omega, show ¬ j < min O (min M C.length) from by omega, show j - min O (min M C.length) < min o (min E.n (min M C.length - O)) + F.n from by omega, show ¬ j - min O (min M C.length) < min o (min E.n (min M C.length - O)) from by omega, show j < min (O + o) C.length + F.n from by omega, show ¬ j < min (O + o) C.length from by omega]
    congr 1; omega
  by_cases c4 : j < O + E.n
  · simp only [c0, if_true, if_false, show j < min O (min M C.length) + (min o (min E.n (min M C.length - O)) + F.n + (min E.n (min M C.length - O) - (o + F.n))) from by omega, show ¬ j < min O (min M C.length) from by omega, show ¬ j - min O (min M C.length) < min o (min E.n (min M C.length - O)) + F.n from by omega, show ¬ j < min (O + o) C.length + F.n from by omega,
      show o + F.n + (j - min O (min M C.length) - (min o (min E.n (min M C.length - O)) + F.n)) < E.n from by omega, show O + (o + F.n + (j - min O (min M C.length) - (min o (min E.n (min M C.length - O)) + F.n))) < M from by omega]
    congr 1; omega
  · simp only [c0, if_true, if_false, show ¬ j < min O (min M C.length) + (min o (min E.n (min M C.length - O)) + F.n + (min E.n (min M C.length - O) - (o + F.n))) from by omega, show ¬ j < min (O + o) C.length + F.n from by omega,
      show O + E.n + (j - (min O (min M C.length) + (min o (min E.n (min M C.length - O)) + F.n + (min E.n (min M C.length - O) - (o + F.n))))) < M from by omega]
    congr 1; omega
theorem aslv_one [Inhabited α] (h : Sl E w (aslv v 1) xs) : xs = [gt xs (0 : Int)] := by
  obtain ⟨A, cap, e1, _⟩ := h
  obtain ⟨b, _, _, e2, _⟩ := aslv_ptr e1
  match xs, e2 with
  | [x], _ => rfl
theorem IsP.optr {u : Value} (h : IsP u) (o : Nat) : IsP (optr u o) := by
  obtain ⟨b, o1, rfl⟩ := h; exact ⟨b, o1 + o, by simp [GL.optr, Addr.add_lit]⟩
theorem st_imin3 {k : IntKind} {p q r : Int} {t'' : TypeId} {z : Operand} (hf : Fr n a L) (hd : d < n) (hw : Region.wanted ⟨some d, .call ⟨.builtin .min, #[x, y, z], #[t, t', t'']⟩, ty, pos, af, g⟩ (yielded ops a.tmps) = true)
    (hx : evL L x = some (.int k p)) (hy : evL L y = some (.int k q)) (hz : evL L z = some (.int k r))
    (h : ∀ a', a' = a.put (some d) (.int k (imin (imin p q) r)) → Fr n a' ((d, .int k (imin (imin p q) r)) :: L) → wpList P ops Q rest a' w) :
    wpList P ops Q (⟨some d, .call ⟨.builtin .min, #[x, y, z], #[t, t', t'']⟩, ty, pos, af, g⟩ :: rest) a w :=
  st_run hf hw rfl hd (by simp [execOp, resolve, invoke, builtin, hf.ev hx, hf.ev hy, hf.ev hz, Builtin.min_, Builtin.min2, imin, Result.andThen, Sem.run, pure, bind, Sem.bind, List.foldlM] <;> first | rfl | congr) h
theorem st_slQ {N : Nat} (hf : Fr n a L) (hd : d < n) (ht : P.underlying t = some (.array N e)) (hsz : (P.info? e).map (·.size) = some F.n)
    (hw : Region.wanted ⟨some d, .slice t x none none none, ty, pos, af, g⟩ (yielded ops a.tmps) = true)
    (hx : evL L x = some u) (hs : IsP u)
    (h : ∀ a', a' = a.put (some d) (aslv u N) → Fr n a' ((d, aslv u N) :: L) → wpList P ops Q rest a' w) :
    wpList P ops Q (⟨some d, .slice t x none none none, ty, pos, af, g⟩ :: rest) a w := by
  obtain ⟨b, o1, rfl⟩ := hs
  obtain ⟨inf, h3, h4⟩ := Option.map_eq_some_iff.1 hsz
  refine st_run hf hw rfl hd (w' := w) ?_ h
  simp [execOp, hf.ev hx, Instr.sliceAt, Instr.sliceBounds, run_underlying ht, Instr.sureAddr, Go.sizeOf, typeInfo, h3, h4, Result.andThen, aslv]
  all_goals (intro _; simp [Addr.add])
theorem st_copyQ [Inhabited α] {N : Nat} {hN : 0 < N} {gg : α → List β} {s : α → List β → α} {vy : Value} {ys : List β} (hn1 : F.n = 1) (A : Sub E (Ek.arr N F hN) o gg s) (hf : Fr n a L) (hd : d < n)
    (ht : P.underlying t = some (.slice e)) (hsz : (P.info? e).map (·.size) = some 1)
    (hp : Hp S w0 w rs) (hi : rs[i]? = some (Res.slx E T v xs sp)) (hs : Sl F w vy ys) (hy0 : 0 < ys.length) (h0 : 0 ≤ p) (h1 : p < xs.length)
    (hw : Region.wanted ⟨some d, .call ⟨.builtin .copy, #[x, y], #[t, t']⟩, ty, pos, af, g⟩ (yielded ops a.tmps) = true)
    (hx : evL L x = some (aslv (optr (eptr v p E.n) o) N)) (hy : evL L y = some vy)
    (h : ∀ a' w', Fr n a' ((d, .int .i64 ((min ys.length N : Nat) : Int)) :: L) → Hp S w0 w' (rs.set i (Res.slx E T v (xs.set p.toNat (s (gt xs p) (cpy (gg (gt xs p)) 0 ys))) sp)) → wpList P ops Q rest a' w') :
    wpList P ops Q (⟨some d, .call ⟨.builtin .copy, #[x, y], #[t, t']⟩, ty, pos, af, g⟩ :: rest) a w := by
  obtain ⟨fp, ho, _, K⟩ := hp.take hi
  rcases ho with ⟨_, rfl, _⟩ | ⟨b, o', cap, cur, rfl, h2, h3, h4, h5, h6, h7⟩
  · simp at h1; omega
  obtain ⟨B, cap', rfl, k1, k2, k3⟩ := hs
  obtain ⟨b2, o2, cs, rfl, _, e3, e4⟩ := k3 (by omega)
  have hfit : o + N * F.n ≤ E.n := A.fit
  have hpl : p.toNat < (xs ++ sp).length := by simp; omega
  have hb : p.toNat * E.n + E.n ≤ (xs ++ sp).length * E.n := by rw [← Nat.succ_mul]; exact Nat.mul_le_mul_right _ (by omega)
  have hb2 : (xs ++ sp).length * E.n ≤ cap * E.n := Nat.mul_le_mul_right _ h4
  have hgt : (xs ++ sp)[p.toNat]? = some (gt xs p) := by rw [List.getElem?_append_left (by omega)]; exact gt_of h0 h1
  have hel := h7.2 _ _ hgt
  obtain ⟨hr0, hl0⟩ := A.get _ _ hel
  obtain ⟨m, hm⟩ : ∃ m, m = min ys.length N := ⟨_, rfl⟩
  have hcl : cs.length = ys.length := by rw [e3.1, hn1, Nat.mul_one]
  have e3' := reps_sub e3 0 m (by omega)
  rw [hn1, Nat.mul_one, Nat.zero_mul, List.drop_zero, List.drop_zero] at e3'
  have hcl' : (cs.take m).length = m := by rw [List.length_take]; omega
  have hn2 : (Ek.arr N F hN).n = N := by show N * F.n = N; rw [hn1, Nat.mul_one]
  rw [hn2] at hr0
  rw [hn1, Nat.mul_one] at hfit
  have key : ∃ ds : List Value, (Ek.arr N F hN).rep ds (cpy (gg (gt xs p)) 0 ys) ∧ cur.toList.take (o' + (p.toNat * E.n + o)) ++ cs.take m ++ cur.toList.drop (o' + (p.toNat * E.n + o) + (cs.take m).length) = cur.toList.take (o' + (p.toNat * E.n + o)) ++ ds ++ cur.toList.drop (o' + (p.toNat * E.n + o) + ds.length) := by
    generalize hO : p.toNat * E.n = O at *
    generalize hM : (xs ++ sp).length * E.n = M at *
    have e0 : ((((((cur.toList.drop o').take M).drop O).take E.n).drop o).take N) = (cur.toList.drop (o' + (O + o))).take N := by
      apply List.ext_getElem?
      intro j
      simp only [List.getElem?_take, List.getElem?_drop]
      by_cases hj : j < N
      · simp only [hj, if_true, show o + j < E.n from by omega, show O + (o + j) < M from by omega]
        congr 1; omega
      · simp only [hj, if_false]
    rw [e0] at hr0
    have r2 := reps_sub hr0 m (N - m) (by omega)
    rw [hn1, Nat.mul_one, Nat.mul_one] at r2
    have hll : ((cur.toList.drop (o' + (O + o))).take N).length = N := by
      have := hr0.1
      rw [hn1, Nat.mul_one, hl0] at this; exact this
    have e5 : (((cur.toList.drop (o' + (O + o))).take N).drop m).take (N - m) = ((cur.toList.drop (o' + (O + o))).take N).drop m := List.take_of_length_le (by rw [List.length_drop, hll]; omega)
    have e6 : ((gg (gt xs p)).drop m).take (N - m) = (gg (gt xs p)).drop m := List.take_of_length_le (by rw [List.length_drop, hl0]; omega)
    rw [e5, e6] at r2
    refine ⟨cs.take m ++ ((cur.toList.drop (o' + (O + o))).take N).drop m, ⟨?_, ?_⟩, ?_⟩
    · have := reps_append e3' r2
      have e7 : cpy (gg (gt xs p)) 0 ys = ys.take m ++ (gg (gt xs p)).drop m := by
        unfold cpy
        rw [List.take_zero, List.nil_append, Nat.zero_add, Nat.sub_zero, hl0, ← hm]
        congr 1
        by_cases hle : ys.length ≤ N
        · rw [hm, Nat.min_eq_left hle, List.take_of_length_le hle, List.take_length]
        · rw [hm, Nat.min_eq_right (by omega)]
      rw [e7]; exact this
    · rw [cpy_len (by omega)]; exact hl0
    · rw [hcl', List.length_append, hcl', List.length_drop, hll, List.append_assoc, List.append_assoc, List.append_assoc]
      congr 2
      have e8 : cur.toList.drop (o' + (O + o) + m) = (cur.toList.drop (o' + (O + o))).drop m := by rw [List.drop_drop]
      have e9 : cur.toList.drop (o' + (O + o) + (m + (N - m))) = (cur.toList.drop (o' + (O + o))).drop N := by rw [List.drop_drop]; congr 1; omega
      rw [e8, e9]
      generalize cur.toList.drop (o' + (O + o)) = C at hll ⊢
      rw [← List.drop_append_of_le_length (by rw [hll]; omega), List.take_append_drop]
  obtain ⟨ds, hds, hrow⟩ := key
  have hdl : ds.length = N := by have := (Ek.arr N F hN).len _ _ hds; rw [hn2] at this; exact this
  have hr := run_copy_row (P := P) w t t' ty e b (o' + (p.toNat * E.n + o)) N N ⟨b2, o2, none⟩ ys.length cap' cur T (cs.take m) ht hsz h3 (by rw [hcl', hm]) (fun j u hj => by
    have hjm : j < m := by have := (List.getElem?_eq_some_iff.1 hj).1; omega
    have := e4 j (by omega)
    rw [List.getElem?_take_of_lt hjm] at hj
    rw [hj] at this
    rw [Addr.add_lit]; exact this) (by omega) (ones_of_reps e3')
  rw [hrow] at hr
  refine st_run (v := .int .i64 ((min ys.length N : Nat) : Int)) (w' := w.setRow b (cur.toList.take (o' + (p.toNat * E.n + o)) ++ ds ++ cur.toList.drop (o' + (p.toNat * E.n + o) + ds.length)).toArray) hf hw rfl hd ?_
    fun a' _ hf' => h a' _ hf' (K _ _ fp (chg_setRow w b _ ((h2 b).2 rfl)) ?_ (fun k hk => .inl hk))
  · simp only [eptr, optr, aslv, Addr.add_lit, Nat.add_assoc] at hx
    simp only [Nat.add_assoc] at hr ⊢
    simp [execOp, resolve, invoke, builtin, hf.ev hx, hf.ev hy, Result.andThen]
    simp at hr
    simp [hr, goInt, Result.andThen]
    omega
  · refine .inr ⟨b, o', cap, _, by simp, h2, setRow_heap w b cur _ T _ h3, by simpa using h4, h5, ?_, ?_⟩
    · simp only [List.size_toArray, List.length_append, List.length_take, List.length_drop, Array.length_toList]
      omega
    · exact part_set A h4 h6 h7 hds h0 h1
end GL
