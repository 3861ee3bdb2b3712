/- Own library, part X: one slice copied over another. -/
import Derived.Test.YtcooefnbolobaaaGlT
import Derived.Laws.CopyRow
import Derived.Laws.IdiomCopy
set_option linter.unusedVariables false
set_option linter.unusedSimpArgs false
namespace GL
open Go Go.Lib

variable {α : Type} {E : Ek α} {S S' : Nat → Prop} {w w' w0 : World} {v : Value} {xs ys sp : List α} {T : TypeId} {rs : List Res} {P : Program}
  {n : Nat} {a : Act} {L : List (Nat × Value)} {ops : Array Oper} {Q : Exit → Act → World → Prop}
  {rest : List Oper} {d : Nat} {ty : TypeId} {pos : String} {af : Array Edge} {g : Option (Nat × Bool)}
  {t t' e : TypeId} {x y : Operand} {bytes : Nat} {z0 : α} {i : Nat}

theorem st_copySl {vy : Value} (hn1 : E.n = 1) (hf : Fr n a L) (hd : d < n) (hE : ElT P E e bytes z0) (ht : P.underlying t = some (.slice e))
    (hp : Hp S w0 w rs) (hi' : rs[i]? = some (Res.slx E T v xs sp)) (hs : Sl E w vy ys)
    (hw : Region.wanted ⟨some d, .call ⟨.builtin .copy, #[x, y], #[t, t']⟩, ty, pos, af, g⟩ (yielded ops a.tmps) = true)
    (hx : evL L x = some v) (hy : evL L y = some vy)
    (h : ∀ a' w', Fr n a' ((d, .int .i64 ((min ys.length xs.length : Nat) : Int)) :: L) → Hp S w0 w' (rs.set i (Res.slx E T v (ys.take xs.length ++ xs.drop ys.length) sp)) → wpList P ops Q rest a' w') :
    wpList P ops Q (⟨some d, .call ⟨.builtin .copy, #[x, y], #[t, t']⟩, ty, pos, af, g⟩ :: rest) a w := by
  obtain ⟨inf, zz, i1, i2, i3, i4, i5⟩ := hE.out
  have hsz : (P.info? e).map (·.size) = some 1 := by simp [i1, i3, hn1]
  by_cases h0 : min ys.length xs.length = 0
  · have hb : ys.take xs.length ++ xs.drop ys.length = xs := by
      by_cases hy0 : ys.length = 0
      · have : ys = [] := List.eq_nil_of_length_eq_zero hy0
        subst this; simp
      · have : xs = [] := List.eq_nil_of_length_eq_zero (by omega)
        subst this; simp
    rw [hb, h0] at h
    obtain ⟨A, cap, rfl, _⟩ := hp.shape hi'
    obtain ⟨B, cap', rfl, _⟩ := hs.shape
    have hr := run_copy_none (P := P) w t t' ty e A B xs.length cap ys.length cap' ht hsz h0
    have hset : rs.set i (Res.slx E T (.slice A xs.length cap) xs sp) = rs := by
      apply List.ext_getElem?
      intro j
      by_cases hj : i = j
      · subst hj
        rw [List.getElem?_set_self (List.getElem?_eq_some_iff.1 hi').1, hi']
      · rw [List.getElem?_set_ne hj]
    rw [hset] at h
    refine st_run (v := .int .i64 0) (w' := w) hf hw rfl hd ?_ fun a' _ hf' => h a' w hf' hp
    simp [execOp, resolve, invoke, builtin, hf.ev hx, hf.ev hy, Result.andThen, hr, goInt]
  · obtain ⟨fp, ho, _, K⟩ := hp.take hi'
    rcases ho with ⟨_, rfl, _⟩ | ⟨b, o', cap, cur, rfl, h2, h3, h4, h5, h6, h7⟩
    · rw [List.length_nil, Nat.min_zero] at h0; omega
    obtain ⟨B, cap', rfl, k1, k2, k3⟩ := hs
    obtain ⟨b2, o2, cs, rfl, _, e3, e4⟩ := k3 (by omega)
    simp only [List.length_append] at h4
    rw [hn1, Nat.mul_one] at h6
    obtain ⟨m, hm⟩ : ∃ m, m = min ys.length xs.length := ⟨_, rfl⟩
    have hcl : cs.length = ys.length := by rw [e3.1, hn1, Nat.mul_one]
    have e3' := reps_sub e3 0 m (by omega)
    rw [hn1, Nat.mul_one, Nat.zero_mul, List.drop_zero, List.drop_zero] at e3'
    have hcl' : (cs.take m).length = m := by rw [List.length_take]; omega
    have hr := run_copy_row (P := P) w t t' ty e b o' xs.length cap ⟨b2, o2, none⟩ ys.length cap' cur T (cs.take m) ht hsz h3 (by rw [hcl', hm]) (fun j u hj => by
      have hjm : j < m := by have := (List.getElem?_eq_some_iff.1 hj).1; omega
      have := e4 j (by omega)
      rw [List.getElem?_take_of_lt hjm] at hj
      rw [hj] at this
      rw [Addr.add_lit]; exact this) (by omega) (ones_of_reps e3')
    refine st_run (v := .int .i64 ((min ys.length xs.length : Nat) : Int)) (w' := w.setRow b (cur.toList.take o' ++ cs.take m ++ cur.toList.drop (o' + (cs.take m).length)).toArray) hf hw rfl hd ?_
      fun a' _ hf' => h a' _ hf' (K _ _ fp (chg_setRow w b _ ((h2 b).2 rfl)) ?_ (fun k hk => .inl hk))
    · simp [execOp, resolve, invoke, builtin, hf.ev hx, hf.ev hy, Result.andThen]
      simp at hr
      simp [hr, goInt, Result.andThen]
      omega
    · have hxl : (ys.take xs.length ++ xs.drop ys.length).length = xs.length := by simp only [List.length_append, List.length_take, List.length_drop]; omega
      refine .inr ⟨b, o', cap, _, by rw [hxl], h2, setRow_heap w b cur _ T _ h3, by rw [List.length_append, hxl]; omega, h5, ?_, ?_⟩
      · simp only [List.size_toArray, List.length_append, List.length_take, List.length_drop, Array.length_toList, hn1, Nat.mul_one]
        omega
      · have hcur : cap ≤ (cur.toList.drop o').length := by simp only [List.length_drop, Array.length_toList]; omega
        have h8 := reps_append e3' (reps_sub h7 m (xs.length + sp.length - m) (by rw [List.length_append]; omega))
        rw [hn1, Nat.mul_one, Nat.mul_one, Nat.mul_one, List.length_append] at h8
        have e9 : (ys.take xs.length ++ xs.drop ys.length) ++ sp = ys.take m ++ ((xs ++ sp).drop m).take (xs.length + sp.length - m) := by
          rw [List.take_of_length_le (l := (xs ++ sp).drop m) (by simp), List.drop_append_of_le_length (by omega), ← List.append_assoc]
          congr 1
          by_cases hle : ys.length ≤ xs.length
          · rw [hm, Nat.min_eq_left hle, List.take_of_length_le hle, List.take_length]
          · rw [hm, Nat.min_eq_right (by omega), List.drop_eq_nil_of_le (by omega), List.drop_length]
        rw [List.length_append, hxl, hn1, Nat.mul_one, e9]
        have e10 : ((List.take o' cur.toList ++ cs.take m ++ cur.toList.drop (o' + (cs.take m).length)).toArray.toList.drop o').take (xs.length + sp.length) = cs.take m ++ List.take (xs.length + sp.length - m) (List.drop m ((cur.toList.drop o').take (xs.length + sp.length))) := by
          have e11 := splice_drop cur.toList (cs.take m) o' 0 m (by simp only [Array.length_toList]; omega)
          rw [Nat.add_zero, Nat.zero_add, List.take_zero, List.nil_append] at e11
          rw [List.toList_toArray, hcl', e11, List.take_append, hcl', List.take_of_length_le (l := cs.take m) (by omega), List.drop_take]
          rw [List.take_take, Nat.min_self]
        rw [e10]
        exact h8
/-! ### A store at an index of a small array -/
theorem st_stOE {o : Nat} {u : Value} {us cs cs' : List Value} (hf : Fr n a L) (hp : Hp S w0 w rs) (hi : rs[i]? = some (Res.obj T v cs))
    (hw : Region.wanted ⟨none, .store e x y, ty, pos, af, g⟩ (yielded ops a.tmps) = true)
    (hx : evL L x = some (optr v o)) (hy : evL L y = some u) (hu : u.cells.toList = us) (h1 : us.all (·.oneCell') = true) (hsz : (P.info? e).map (·.size) = some us.length) (ho : o + us.length ≤ cs.length)
    (he : cs.take o ++ us ++ cs.drop (o + us.length) = cs')
    (h : ∀ a' w', Fr n a' L → Hp S w0 w' (rs.set i (Res.obj T v cs')) → wpList P ops Q rest a' w') :
    wpList P ops Q (⟨none, .store e x y, ty, pos, af, g⟩ :: rest) a w := by
  subst he
  exact st_stO hf hp hi hw hx hy hu h1 hsz ho h
theorem sti_int2 {k : IntKind} {p : Int} {a b u : Int} (hc : 0 ≤ p ∧ p < (2 : Int)) : ([.int k a, .int k b] : List Value).take (0 + p.toNat * 1) ++ [.int k u] ++ ([.int k a, .int k b] : List Value).drop (0 + p.toNat * 1 + ([Value.int k u]).length) = [.int k (gt ([a, b].set p.toNat u) (0 : Int)), .int k (gt ([a, b].set p.toNat u) (1 : Int))] := by
  have : p = 0 ∨ p = 1 := by omega
  rcases this with rfl | rfl <;> rfl
theorem sti_bool2 {p : Int} {a b u : Bool} (hc : 0 ≤ p ∧ p < (2 : Int)) : ([.bool a, .bool b] : List Value).take (0 + p.toNat * 1) ++ [.bool u] ++ ([.bool a, .bool b] : List Value).drop (0 + p.toNat * 1 + ([Value.bool u]).length) = [.bool (gt ([a, b].set p.toNat u) (0 : Int)), .bool (gt ([a, b].set p.toNat u) (1 : Int))] := by
  have : p = 0 ∨ p = 1 := by omega
  rcases this with rfl | rfl <;> rfl
theorem sti_int3 {k : IntKind} {p : Int} {a b c u : Int} (hc : 0 ≤ p ∧ p < (3 : Int)) : ([.int k a, .int k b, .int k c] : List Value).take (0 + p.toNat * 1) ++ [.int k u] ++ ([.int k a, .int k b, .int k c] : List Value).drop (0 + p.toNat * 1 + ([Value.int k u]).length) = [.int k (gt ([a, b, c].set p.toNat u) (0 : Int)), .int k (gt ([a, b, c].set p.toNat u) (1 : Int)), .int k (gt ([a, b, c].set p.toNat u) (2 : Int))] := by
  have : p = 0 ∨ p = 1 ∨ p = 2 := by omega
  rcases this with rfl | rfl | rfl <;> rfl
theorem sti_bool3 {p : Int} {a b c u : Bool} (hc : 0 ≤ p ∧ p < (3 : Int)) : ([.bool a, .bool b, .bool c] : List Value).take (0 + p.toNat * 1) ++ [.bool u] ++ ([.bool a, .bool b, .bool c] : List Value).drop (0 + p.toNat * 1 + ([Value.bool u]).length) = [.bool (gt ([a, b, c].set p.toNat u) (0 : Int)), .bool (gt ([a, b, c].set p.toNat u) (1 : Int)), .bool (gt ([a, b, c].set p.toNat u) (2 : Int))] := by
  have : p = 0 ∨ p = 1 ∨ p = 2 := by omega
  rcases this with rfl | rfl | rfl <;> rfl
theorem sti_int4 {k : IntKind} {p : Int} {a b c d u : Int} (hc : 0 ≤ p ∧ p < (4 : Int)) : ([.int k a, .int k b, .int k c, .int k d] : List Value).take (0 + p.toNat * 1) ++ [.int k u] ++ ([.int k a, .int k b, .int k c, .int k d] : List Value).drop (0 + p.toNat * 1 + ([Value.int k u]).length) = [.int k (gt ([a, b, c, d].set p.toNat u) (0 : Int)), .int k (gt ([a, b, c, d].set p.toNat u) (1 : Int)), .int k (gt ([a, b, c, d].set p.toNat u) (2 : Int)), .int k (gt ([a, b, c, d].set p.toNat u) (3 : Int))] := by
  have : p = 0 ∨ p = 1 ∨ p = 2 ∨ p = 3 := by omega
  rcases this with rfl | rfl | rfl | rfl <;> rfl
theorem sti_bool4 {p : Int} {a b c d u : Bool} (hc : 0 ≤ p ∧ p < (4 : Int)) : ([.bool a, .bool b, .bool c, .bool d] : List Value).take (0 + p.toNat * 1) ++ [.bool u] ++ ([.bool a, .bool b, .bool c, .bool d] : List Value).drop (0 + p.toNat * 1 + ([Value.bool u]).length) = [.bool (gt ([a, b, c, d].set p.toNat u) (0 : Int)), .bool (gt ([a, b, c, d].set p.toNat u) (1 : Int)), .bool (gt ([a, b, c, d].set p.toNat u) (2 : Int)), .bool (gt ([a, b, c, d].set p.toNat u) (3 : Int))] := by
  have : p = 0 ∨ p = 1 ∨ p = 2 ∨ p = 3 := by omega
  rcases this with rfl | rfl | rfl | rfl <;> rfl
theorem st_bd {p : Int} {N : Nat} (hc : 0 ≤ p ∧ p < (N : Int)) : 0 + p.toNat * 1 + 1 ≤ N := by omega
/-! ### '==' of small arrays -/
theorem fit_symm {u : Option TypeDesc} {x y : Value} (h3 : fitV u x y = true) : fitV u y x = true := by
  cases u with
  | none => simp [fitV] at h3
  | some u =>
    cases u <;> cases x <;> cases y <;> first | (simp [fitV] at h3; done) | rfl | (simp only [fitV, decide_eq_true_eq] at h3 ⊢; exact h3.symm)
theorem run_eqArr2 {t e : TypeId} {D : Nat} {x0 x1 y0 y1 : Value} (ht : P.underlying t = some (.array 2 e)) (hsz : (P.info? e).map (·.size) = some 1) (h0 : fitV (P.underlying e) x0 y0 = true) (h1 : fitV (P.underlying e) x1 y1 = true) (w : World) :
    (Op.equalIn (D + 2) t (.agg #[x0, x1]) (.agg #[y0, y1])).run P w = .ok ((eqV x0 y0 && eqV x1 y1)) w := by
  have a0 := run_part1 (P := P) (cs := #[x0, x1]) (o := 0) h0 rfl w
  have b0 := run_part1 (P := P) (cs := #[y0, y1]) (o := 0) (fit_symm h0) rfl w
  have c0 := run_eq1 (P := P) (d := D) h0 w
  have a1 := run_part1 (P := P) (cs := #[x0, x1]) (o := 1) h1 rfl w
  have b1 := run_part1 (P := P) (cs := #[y0, y1]) (o := 1) (fit_symm h1) rfl w
  have c1 := run_eq1 (P := P) (d := D) h1 w
  obtain ⟨i, hq, hi⟩ := Option.map_eq_some_iff.1 hsz
  generalize hD : D + 1 = D' at *
  rw [show D + 2 = D' + 1 by omega]
  clear hD
  simp [Op.equalIn, run_underlying ht, Go.sizeOf, typeInfo, hq, hi, Std.Legacy.Range.forIn_eq_forIn_range', List.range', a0, b0, c0, a1, b1, c1, Sem.run_bind, Result.andThen]
  cases q0 : eqV x0 y0 <;> cases q1 : eqV x1 y1 <;> simp [Sem.run, pure, a0, b0, c0, q0, a1, b1, c1, q1]
theorem st_eqArr2 {x0 x1 y0 y1 : Value} (hf : Fr n a L) (hd : d < n) (ht : P.underlying t = some (.array 2 e)) (hsz : (P.info? e).map (·.size) = some 1) (hg : P.eqGuardType P.depth t = false) (h0 : fitV (P.underlying e) x0 y0 = true) (h1 : fitV (P.underlying e) x1 y1 = true)
    (hw : Region.wanted ⟨some d, .binOp .eql t x y t', ty, pos, af, g⟩ (yielded ops a.tmps) = true)
    (hx : evL L x = some (.agg #[x0, x1])) (hy : evL L y = some (.agg #[y0, y1])) {b : Bool} (hb : ((eqV x0 y0 && eqV x1 y1)) = b)
    (h : ∀ a', a' = a.put (some d) (.bool b) → Fr n a' ((d, .bool b) :: L) → wpList P ops Q rest a' w) :
    wpList P ops Q (⟨some d, .binOp .eql t x y t', ty, pos, af, g⟩ :: rest) a w := by
  subst hb
  refine st_run (v := .bool ((eqV x0 y0 && eqV x1 y1))) (w' := w) hf hw rfl hd ?_ h
  have G1 := run_eqGuard_agg w .eql t x y #[x0, x1] #[y0, y1] hg
  have G2 := run_eql_struct (P := P) w t #[x0, x1] #[y0, y1]
  rw [show (10000 : Nat) = 9998 + 2 from rfl, run_eqArr2 ht hsz h0 h1 w] at G2
  simp only [execOp, hf.ev hx, hf.ev hy, Sem.run_bind, G1, G2, Result.andThen_ok]
  rfl
theorem st_neArr2 {x0 x1 y0 y1 : Value} (hf : Fr n a L) (hd : d < n) (ht : P.underlying t = some (.array 2 e)) (hsz : (P.info? e).map (·.size) = some 1) (hg : P.eqGuardType P.depth t = false) (h0 : fitV (P.underlying e) x0 y0 = true) (h1 : fitV (P.underlying e) x1 y1 = true)
    (hw : Region.wanted ⟨some d, .binOp .neq t x y t', ty, pos, af, g⟩ (yielded ops a.tmps) = true)
    (hx : evL L x = some (.agg #[x0, x1])) (hy : evL L y = some (.agg #[y0, y1])) {b : Bool} (hb : (!((eqV x0 y0 && eqV x1 y1))) = b)
    (h : ∀ a', a' = a.put (some d) (.bool b) → Fr n a' ((d, .bool b) :: L) → wpList P ops Q rest a' w) :
    wpList P ops Q (⟨some d, .binOp .neq t x y t', ty, pos, af, g⟩ :: rest) a w := by
  subst hb
  refine st_run (v := .bool (!((eqV x0 y0 && eqV x1 y1)))) (w' := w) hf hw rfl hd ?_ h
  have G1 := run_eqGuard_agg w .neq t x y #[x0, x1] #[y0, y1] hg
  have G2 := run_neq_struct (P := P) w t #[x0, x1] #[y0, y1]
  rw [show (10000 : Nat) = 9998 + 2 from rfl, run_eqArr2 ht hsz h0 h1 w] at G2
  simp only [execOp, hf.ev hx, hf.ev hy, Sem.run_bind, G1, G2, Result.andThen_ok]
  rfl
theorem run_eqArr4 {t e : TypeId} {D : Nat} {x0 x1 x2 x3 y0 y1 y2 y3 : Value} (ht : P.underlying t = some (.array 4 e)) (hsz : (P.info? e).map (·.size) = some 1) (h0 : fitV (P.underlying e) x0 y0 = true) (h1 : fitV (P.underlying e) x1 y1 = true) (h2 : fitV (P.underlying e) x2 y2 = true) (h3 : fitV (P.underlying e) x3 y3 = true) (w : World) :
    (Op.equalIn (D + 2) t (.agg #[x0, x1, x2, x3]) (.agg #[y0, y1, y2, y3])).run P w = .ok ((eqV x0 y0 && (eqV x1 y1 && (eqV x2 y2 && eqV x3 y3)))) w := by
  have a0 := run_part1 (P := P) (cs := #[x0, x1, x2, x3]) (o := 0) h0 rfl w
  have b0 := run_part1 (P := P) (cs := #[y0, y1, y2, y3]) (o := 0) (fit_symm h0) rfl w
  have c0 := run_eq1 (P := P) (d := D) h0 w
  have a1 := run_part1 (P := P) (cs := #[x0, x1, x2, x3]) (o := 1) h1 rfl w
  have b1 := run_part1 (P := P) (cs := #[y0, y1, y2, y3]) (o := 1) (fit_symm h1) rfl w
  have c1 := run_eq1 (P := P) (d := D) h1 w
  have a2 := run_part1 (P := P) (cs := #[x0, x1, x2, x3]) (o := 2) h2 rfl w
  have b2 := run_part1 (P := P) (cs := #[y0, y1, y2, y3]) (o := 2) (fit_symm h2) rfl w
  have c2 := run_eq1 (P := P) (d := D) h2 w
  have a3 := run_part1 (P := P) (cs := #[x0, x1, x2, x3]) (o := 3) h3 rfl w
  have b3 := run_part1 (P := P) (cs := #[y0, y1, y2, y3]) (o := 3) (fit_symm h3) rfl w
  have c3 := run_eq1 (P := P) (d := D) h3 w
  obtain ⟨i, hq, hi⟩ := Option.map_eq_some_iff.1 hsz
  generalize hD : D + 1 = D' at *
  rw [show D + 2 = D' + 1 by omega]
  clear hD
  simp [Op.equalIn, run_underlying ht, Go.sizeOf, typeInfo, hq, hi, Std.Legacy.Range.forIn_eq_forIn_range', List.range', a0, b0, c0, a1, b1, c1, a2, b2, c2, a3, b3, c3, Sem.run_bind, Result.andThen]
  cases q0 : eqV x0 y0 <;> cases q1 : eqV x1 y1 <;> cases q2 : eqV x2 y2 <;> cases q3 : eqV x3 y3 <;> simp [Sem.run, pure, a0, b0, c0, q0, a1, b1, c1, q1, a2, b2, c2, q2, a3, b3, c3, q3]
theorem st_eqArr4 {x0 x1 x2 x3 y0 y1 y2 y3 : Value} (hf : Fr n a L) (hd : d < n) (ht : P.underlying t = some (.array 4 e)) (hsz : (P.info? e).map (·.size) = some 1) (hg : P.eqGuardType P.depth t = false) (h0 : fitV (P.underlying e) x0 y0 = true) (h1 : fitV (P.underlying e) x1 y1 = true) (h2 : fitV (P.underlying e) x2 y2 = true) (h3 : fitV (P.underlying e) x3 y3 = true)
    (hw : Region.wanted ⟨some d, .binOp .eql t x y t', ty, pos, af, g⟩ (yielded ops a.tmps) = true)
    (hx : evL L x = some (.agg #[x0, x1, x2, x3])) (hy : evL L y = some (.agg #[y0, y1, y2, y3])) {b : Bool} (hb : ((eqV x0 y0 && (eqV x1 y1 && (eqV x2 y2 && eqV x3 y3)))) = b)
    (h : ∀ a', a' = a.put (some d) (.bool b) → Fr n a' ((d, .bool b) :: L) → wpList P ops Q rest a' w) :
    wpList P ops Q (⟨some d, .binOp .eql t x y t', ty, pos, af, g⟩ :: rest) a w := by
  subst hb
  refine st_run (v := .bool ((eqV x0 y0 && (eqV x1 y1 && (eqV x2 y2 && eqV x3 y3))))) (w' := w) hf hw rfl hd ?_ h
  have G1 := run_eqGuard_agg w .eql t x y #[x0, x1, x2, x3] #[y0, y1, y2, y3] hg
  have G2 := run_eql_struct (P := P) w t #[x0, x1, x2, x3] #[y0, y1, y2, y3]
  rw [show (10000 : Nat) = 9998 + 2 from rfl, run_eqArr4 ht hsz h0 h1 h2 h3 w] at G2
  simp only [execOp, hf.ev hx, hf.ev hy, Sem.run_bind, G1, G2, Result.andThen_ok]
  rfl
theorem st_neArr4 {x0 x1 x2 x3 y0 y1 y2 y3 : Value} (hf : Fr n a L) (hd : d < n) (ht : P.underlying t = some (.array 4 e)) (hsz : (P.info? e).map (·.size) = some 1) (hg : P.eqGuardType P.depth t = false) (h0 : fitV (P.underlying e) x0 y0 = true) (h1 : fitV (P.underlying e) x1 y1 = true) (h2 : fitV (P.underlying e) x2 y2 = true) (h3 : fitV (P.underlying e) x3 y3 = true)
    (hw : Region.wanted ⟨some d, .binOp .neq t x y t', ty, pos, af, g⟩ (yielded ops a.tmps) = true)
    (hx : evL L x = some (.agg #[x0, x1, x2, x3])) (hy : evL L y = some (.agg #[y0, y1, y2, y3])) {b : Bool} (hb : (!((eqV x0 y0 && (eqV x1 y1 && (eqV x2 y2 && eqV x3 y3))))) = b)
    (h : ∀ a', a' = a.put (some d) (.bool b) → Fr n a' ((d, .bool b) :: L) → wpList P ops Q rest a' w) :
    wpList P ops Q (⟨some d, .binOp .neq t x y t', ty, pos, af, g⟩ :: rest) a w := by
  subst hb
  refine st_run (v := .bool (!((eqV x0 y0 && (eqV x1 y1 && (eqV x2 y2 && eqV x3 y3)))))) (w' := w) hf hw rfl hd ?_ h
  have G1 := run_eqGuard_agg w .neq t x y #[x0, x1, x2, x3] #[y0, y1, y2, y3] hg
  have G2 := run_neq_struct (P := P) w t #[x0, x1, x2, x3] #[y0, y1, y2, y3]
  rw [show (10000 : Nat) = 9998 + 2 from rfl, run_eqArr4 ht hsz h0 h1 h2 h3 w] at G2
  simp only [execOp, hf.ev hx, hf.ev hy, Sem.run_bind, G1, G2, Result.andThen_ok]
  rfl
end GL
