/- Own library, part L: slice expressions over owned slices; strings from bytes; copying a string. -/
import Derived.Test.YtcooefnbolobaaaGlI
import Derived.Laws.BytesString
import Derived.Laws.BytesArg
import Derived.Lib.BufferWrite
set_option linter.unusedVariables false
set_option linter.unusedSimpArgs false
namespace GL
open Go Go.Lib

variable {α : Type} {E : Ek α} {S S' : Nat → Prop} {w w' w0 : World} {v : Value} {xs ys sp : List α} {T : TypeId} {rs : List Res} {P : Program}

theorem Hp.shape (hp : Hp S w0 w rs) {i : Nat} (hi : rs[i]? = some (Res.slx E T v xs sp)) : ∃ A cap, v = .slice A xs.length cap ∧ (xs ++ sp).length ≤ cap := by
  obtain ⟨fp, h, _⟩ := hp.take hi
  rcases h with ⟨rfl, rfl, rfl, _⟩ | ⟨g, o, cap, cur, rfl, h2, h3, h4, h5, h6, h7⟩
  · exact ⟨none, 0, rfl, by simp⟩
  · exact ⟨_, cap, rfl, h4⟩
theorem RdS.shape (h : RdS E S w v xs) : ∃ A cap, v = .slice A xs.length cap ∧ xs.length ≤ cap := by
  obtain ⟨A, cap, h1, h2, _⟩ := h
  exact ⟨A, cap, h1, h2⟩

theorem Hp.cutOwn (hp : Hp S w0 w rs) {i : Nat} (hi : rs[i]? = some (Res.slx E T v xs sp)) {m : Nat} (h1 : m ≤ (xs ++ sp).length) :
    Hp S w0 w (rs.set i (Res.slx E T (GL.cut v 0 m E.n) ((xs ++ sp).take m) ((xs ++ sp).drop m))) := by
  obtain ⟨fp, h, _, k⟩ := hp.take hi
  refine k w _ fp (Chg.refl _ w) ?_ (fun k hk => .inl hk)
  rcases h with ⟨rfl, rfl, rfl, h4⟩ | ⟨g, o, cap, cur, rfl, h2, h3, h4, h5, h6, h7⟩
  · have : m = 0 := by simpa using h1
    subst this
    exact .inl ⟨rfl, rfl, rfl, h4⟩
  · have hl : ((xs ++ sp).take m).length = m := by rw [List.length_take]; omega
    refine .inr ⟨g, o, cap, cur, ?_, h2, h3, by rw [List.take_append_drop]; exact h4, h5, h6, by rw [List.take_append_drop]; exact h7⟩
    simp [GL.cut, hl, Addr.add_lit]

/-- The front is cut off. -/
theorem Hp.cutFront (hp : Hp S w0 w rs) {i : Nat} (hi : rs[i]? = some (Res.slx E T v xs [])) {m : Nat} (h1 : m ≤ xs.length) :
    Hp S w0 w (rs.set i (Res.slx E T (GL.cut v m xs.length E.n) (xs.drop m) [])) := by
  obtain ⟨fp, h, _, k⟩ := hp.take hi
  refine k w _ fp (Chg.refl _ w) ?_ (fun k hk => .inl hk)
  rcases h with ⟨rfl, rfl, _, h4⟩ | ⟨g, o, cap, cur, rfl, h2, h3, h4, h5, h6, h7⟩
  · have : m = 0 := by simpa using h1
    subst this
    exact .inl ⟨rfl, rfl, rfl, h4⟩
  · simp only [List.append_nil] at h4 h7
    have hl : (xs.drop m).length = xs.length - m := by simp
    by_cases hc : cap = m
    · have hm : m = xs.length := by omega
      have he : xs.drop m = [] := List.drop_eq_nil_of_le (by omega)
      rw [he]
      refine .inr ⟨g, o, 0, cur, ?_, h2, h3, by simp, by simp [maxLen], by omega, ?_⟩
      · subst hc; simp [GL.cut]; omega
      · simpa using reps_nil E
    · refine .inr ⟨g, o + m * E.n, cap - m, cur, ?_, h2, h3, by simp; omega, by omega, ?_, ?_⟩
      · simp [GL.cut, hc, hl, Addr.add_lit]
      · rw [Nat.add_assoc, ← Nat.add_mul, show m + (cap - m) = cap by omega]; exact h6
      · rw [List.append_nil, hl]
        have := reps_sub h7 m (xs.length - m) (by omega)
        rw [List.take_of_length_le (l := List.drop m xs) (by simp)] at this
        refine cast (congrArg (fun c => E.reps c _) ?_) this
        rw [List.drop_take, List.drop_drop, List.take_take, Nat.min_eq_left]
        rw [Nat.sub_mul]
        exact Nat.le_refl _

theorem evI {L : List (Nat × Value)} {o : Operand} {k : IntKind} {m : Int} (h : evL L o = some (.int k m)) (h0 : 0 ≤ m) : evL L o = some (.int k (m.toNat : Int)) := by
  rw [Int.toNat_of_nonneg h0]; exact h

theorem st_skipU {P : Program} {n : Nat} {a : Act} {L : List (Nat × Value)} {ops : Array Oper} {Q : Exit → Act → World → Prop} {rest : List Oper} {o : Oper} {d : Nat} (hf : Fr n a L) (hw : Region.wanted o (yielded ops a.tmps) = false) (hdst : o.dst = some d) (hd : d < n)
    (h : ∀ a', Fr n a' ((d, undef) :: L) → wpList P ops Q rest a' w) : wpList P ops Q (o :: rest) a w := by
  unfold wpList
  rw [if_neg (by rw [hw]; simp), hdst]
  exact h _ (hf.put hd undef)
theorem wantU {n : Nat} {a : Act} {L : List (Nat × Value)} {ops : Array Oper} {dst : Option Tmp} {op : Op} {ty : TypeId} {pos : String} {af : Array Edge} (hf : Fr n a L) {j t : Nat} {want : Bool}
    (hj : ((ops[j]?).bind (·.dst)) = some t) (hl : lk L t = some undef) : Region.wanted ⟨dst, op, ty, pos, af, some (j, want)⟩ (yielded ops a.tmps) = false := by
  simp [Region.wanted, yielded, hj, hf.slots t _ hl, undef]

def bstr (xs : List Int) : ByteArray := ⟨(xs.map fun n => UInt8.ofNat n.toNat).toArray⟩
def sbytes (s : ByteArray) : List Int := s.data.toList.map fun b => (b.toNat : Int)

section ops
variable {n : Nat} {a : Act} {L : List (Nat × Value)} {ops : Array Oper} {Q : Exit → Act → World → Prop}
  {rest : List Oper} {d : Nat} {ty : TypeId} {pos : String} {af : Array Edge} {g : Option (Nat × Bool)}
  {t t' e : TypeId} {x y z : Operand} {k k' : IntKind} {p q : Int} {u : Value} {bytes : Nat} {z0 : α} {i : Nat}

theorem run_loadCells_sl {xs : List Int} {A : Addr} {len cap : Nat} (h : Sl (Ek.int k) w (.slice (some A) len cap) xs) (h0 : 0 < xs.length) : (loadCells A len).run P w = .ok (xs.map (Value.int k)).toArray w := by
  obtain ⟨A', cap', e1, _, _, h4⟩ := h
  obtain ⟨b, o, cs, e2, _, e3, e4⟩ := h4 h0
  simp only [Value.slice.injEq] at e1
  obtain ⟨rfl, rfl, rfl⟩ := e1
  obtain rfl := Option.some.inj e2
  have hcs : cs = xs.map (Value.int k) := by
    apply List.ext_getElem
    · have := e3.1; simp only [Ek.int, Nat.mul_one] at this; simpa using this
    · intro j h1 h2
      simp only [List.length_map] at h2
      have := e3.2 j _ (List.getElem?_eq_getElem h2)
      simp only [Ek.int, Nat.mul_one] at this
      have h3 := congrArg (·[0]?) this
      simp only [List.getElem?_take_of_lt (Nat.lt_succ_self 0), List.getElem?_drop, Nat.add_zero, List.getElem?_cons_zero] at h3
      rw [List.getElem?_eq_getElem h1] at h3
      simpa using h3
  have := run_loadCells_list (P := P) w (⟨b, o, none⟩ : Addr) cs (cellsAt_list e4)
  rw [hcs] at this
  simpa using this

theorem st_convBS {xs : List Int} (hf : Fr n a L) (hd : d < n) (hs : P.underlying t = some (.slice e)) (he : P.underlying e = some (.int .u8)) (hdt : P.underlying t' = some .string)
    (hw : Region.wanted ⟨some d, .convert t t' x, ty, pos, af, g⟩ (yielded ops a.tmps) = true)
    (hx : evL L x = some v) (hv : Sl (Ek.int .u8) w v xs)
    (h : ∀ a', a' = a.put (some d) (.string (bstr xs)) → Fr n a' ((d, .string (bstr xs)) :: L) → wpList P ops Q rest a' w) :
    wpList P ops Q (⟨some d, .convert t t' x, ty, pos, af, g⟩ :: rest) a w := by
  have hc : (convert t t' v).run P w = .ok (.string (bstr xs)) w := by
    by_cases h0 : 0 < xs.length
    · obtain ⟨A, cap, e1, _, _, h4⟩ := id hv
      obtain ⟨b, o, cs, e2, _⟩ := h4 h0
      subst e2; subst e1
      rw [run_convert_bytes_string w t t' e _ _ _ hs he hdt, run_bytesToString w _ _ _ xs (run_loadCells_sl hv h0), foldl_push_bytes]
      simp [bstr, ByteArray.empty, ByteArray.emptyWithCapacity]
      rfl
    · obtain ⟨A, cap, e1, _, _, h4⟩ := id hv
      have hx0 : xs = [] := List.eq_nil_of_length_eq_zero (by omega)
      subst hx0; subst e1
      rw [run_convert_bytes_string w t t' e _ _ _ hs he hdt]
      cases A with
      | none => rfl
      | some A =>
        rw [run_bytesToString w A _ _ [] (by simpa using run_loadCells_list (P := P) w A [] (by simp))]
        rfl
  refine st_run hf hw rfl hd (v := .string (bstr xs)) (w' := w) ?_ h
  simp only [execOp, hf.ev hx, Sem.run_bind, hc, Result.andThen]
  rfl

theorem sbytes_len (s : ByteArray) : (sbytes s).length = s.size := by
  simp only [sbytes, List.length_map, Array.length_toList]; rfl
theorem sbytes_rep (s : ByteArray) : (Ek.int .u8).reps (byteCells s.data.toList) (sbytes s) := by
  refine ⟨by simp [byteCells, sbytes, Ek.int], fun i x hx => ?_⟩
  simp only [sbytes, List.getElem?_map, Option.map_eq_some_iff] at hx
  obtain ⟨b, hb, rfl⟩ := hx
  have hi := (List.getElem?_eq_some_iff.1 hb).1
  simp only [Ek.int, Nat.mul_one, byteCells, List.drop_eq_getElem_cons (show i < (List.map (fun b : UInt8 => Value.int .u8 (b.toNat : Int)) s.data.toList).length by simpa using hi)]
  rw [List.getElem?_eq_getElem hi] at hb
  simp [Option.some.inj hb]

theorem st_copyStr {xs sp : List Int} {s : ByteArray} {lo hi : Nat} {z0 : Int} (hf : Fr n a L) (hd : d < n) (hE : ElT P (Ek.int .u8) e 1 z0) (ht : P.underlying t = some (.slice e))
    (hp : Hp S w0 w rs) (hi' : rs[i]? = some (Res.slx (Ek.int .u8) e v xs sp))
    (hw : Region.wanted ⟨some d, .call ⟨.builtin .copy, #[x, y], #[t, t']⟩, ty, pos, af, g⟩ (yielded ops a.tmps) = true)
    (hx : evL L x = some (GL.cut v lo xs.length 1)) (hy : evL L y = some (.string s)) (h1 : lo + s.size ≤ xs.length)
    (h : ∀ a' w', Fr n a' ((d, .int .i64 (s.size : Int)) :: L) → Hp S w0 w' (rs.set i (Res.slx (Ek.int .u8) e v (xs.take lo ++ sbytes s ++ xs.drop (lo + s.size)) sp)) → wpList P ops Q rest a' w') :
    wpList P ops Q (⟨some d, .call ⟨.builtin .copy, #[x, y], #[t, t']⟩, ty, pos, af, g⟩ :: rest) a w := by
  obtain ⟨inf, zz, i1, i2, i3, i4, i5⟩ := hE.out
  have hbl : (sbytes s).length = s.size := sbytes_len s
  by_cases h0 : s.size = 0
  · have hb : sbytes s = [] := List.eq_nil_of_length_eq_zero (by omega)
    rw [hb, h0, List.append_nil, Nat.add_zero, List.take_append_drop] at h
    obtain ⟨A, cap, rfl, _⟩ := hp.shape hi'
    have hr := run_copy_empty_string (P := P) w t t' ty e (if cap = lo then A else A.map (·.add (lo * 1))) (xs.length - lo) (cap - lo) s ht (by simp [i1]) h0
    have hset : rs.set i (Res.slx (Ek.int .u8) e (.slice A xs.length cap) xs sp) = rs := by
      apply List.ext_getElem?
      intro j
      by_cases hj : i = j
      · subst hj
        rw [List.getElem?_set_self (List.getElem?_eq_some_iff.1 hi').1, hi']
      · rw [List.getElem?_set_ne hj]
    rw [hset] at h
    refine st_run (v := .int .i64 0) (w' := w) hf hw rfl hd ?_ fun a' _ hf' => h a' w hf' hp
    simp only [GL.cut] at hx
    simp [execOp, resolve, invoke, builtin, hf.ev hx, hf.ev hy, Result.andThen]
    simp at hr
    simp [hr, goInt, Result.andThen]
  · obtain ⟨fp, ho, _, K⟩ := hp.take hi'
    rcases ho with ⟨_, rfl, _⟩ | ⟨b, o', cap, cur, rfl, h2, h3, h4, h5, h6, h7⟩
    · rw [List.length_nil] at h1; omega
    simp only [List.length_append] at h4
    have hne : cap ≠ lo := by omega
    simp only [Ek.int, Nat.mul_one] at h6
    have hr := run_copy_row_string (P := P) w t t' ty e b (o' + lo * 1) (xs.length - lo) (cap - lo) s cur e ht (by simp [i1, i3, Ek.int]) h3 (by omega) (by omega)
    refine st_run (v := .int .i64 (s.size : Int)) (w' := w.setRow b (cur.toList.take (o' + lo * 1) ++ byteCells s.data.toList ++ cur.toList.drop (o' + lo * 1 + s.size)).toArray) hf hw rfl hd ?_
      fun a' _ hf' => h a' _ hf' (K _ _ fp (chg_setRow w b _ ((h2 b).2 rfl)) ?_ (fun k hk => .inl hk))
    · simp only [GL.cut, hne, if_false, Option.map_some, Addr.add_lit] at hx
      simp [execOp, resolve, invoke, builtin, hf.ev hx, hf.ev hy, Result.andThen]
      simp at hr
      simp [hr, goInt, Result.andThen]
    · have hbc : (byteCells s.data.toList).length = s.size := by rw [(sbytes_rep s).1, sbytes_len]; simp [Ek.int]
      refine .inr ⟨b, o', cap, _, by simp [hbl]; omega, h2, setRow_heap w b cur _ e _ h3, by simp [hbl]; omega, h5, ?_, ?_⟩
      · simp only [List.size_toArray, List.length_append, List.length_take, List.length_drop, Array.length_toList, hbc, Ek.int, Nat.mul_one]
        omega
      · have h8 := reps_append (reps_append (reps_sub h7 0 lo (by simp; omega)) (sbytes_rep s)) (reps_sub h7 (lo + s.size) (xs.length + sp.length - (lo + s.size)) (by simp; omega))
        simp only [Ek.int, Nat.mul_one, List.drop_zero, Nat.zero_mul, List.length_append] at h8 ⊢
        have hm : xs.length + sp.length ≤ (cur.toList.drop o').length := by simp only [List.length_drop, Array.length_toList]; omega
        have e0 : (List.take lo xs).length + (sbytes s).length + (List.drop (lo + s.size) xs).length + sp.length = xs.length + sp.length := by simp [hbl]; omega
        have hc := splice_take (cur.toList.drop o') (byteCells s.data.toList) lo (xs.length + sp.length) s.size (by omega) hm hbc
        rw [e0, splice_drop _ _ _ _ _ (by simp only [Array.length_toList]; omega), ← hc]
        rw [List.take_of_length_le (l := List.drop (lo + s.size) (List.take (xs.length + sp.length) (cur.toList.drop o'))) (by simp; omega)] at h8
        rw [List.take_of_length_le (l := List.drop (lo + s.size) (xs ++ sp)) (by simp), List.take_append_of_le_length (by omega), List.drop_append_of_le_length (by omega)] at h8
        simpa only [List.append_assoc] using h8

theorem st_cutS {w1 : World} (hf : Fr n a L) (hd : d < n) (ht : P.underlying t = some (.slice e)) (he : ElT P E e bytes z0) {lo hi : Option Operand} {l h : Nat}
    (hw : Region.wanted ⟨some d, .slice t x lo hi none, ty, pos, af, g⟩ (yielded ops a.tmps) = true)
    (hx : evL L x = some v) (hs : Sl E w1 v xs)
    (hlo : lo = none ∧ l = 0 ∨ ∃ k o, lo = some o ∧ evL L o = some (.int k (l : Int))) (hhi : hi = none ∧ h = xs.length ∨ ∃ k o, hi = some o ∧ evL L o = some (.int k (h : Int)))
    (h1 : l ≤ h) (h2 : h ≤ xs.length)
    (hk : ∀ a', a' = a.put (some d) (GL.cut v l h E.n) → Fr n a' ((d, GL.cut v l h E.n) :: L) → wpList P ops Q rest a' w) :
    wpList P ops Q (⟨some d, .slice t x lo hi none, ty, pos, af, g⟩ :: rest) a w := by
  obtain ⟨A, cap, hv, hc⟩ := RdS.shape hs
  exact st_cut hf hd ht he hw hx hv hlo hhi h1 (Nat.le_trans h2 hc) hk
theorem st_cutX (hf : Fr n a L) (hd : d < n) (ht : P.underlying t = some (.slice e)) (he : ElT P E e bytes z0) {lo hi : Option Operand} {l h : Nat}
    (hp : Hp S w0 w rs) (hi' : rs[i]? = some (Res.slx E T v xs sp))
    (hw : Region.wanted ⟨some d, .slice t x lo hi none, ty, pos, af, g⟩ (yielded ops a.tmps) = true)
    (hx : evL L x = some v)
    (hlo : lo = none ∧ l = 0 ∨ ∃ k o, lo = some o ∧ evL L o = some (.int k (l : Int))) (hhi : hi = none ∧ h = xs.length ∨ ∃ k o, hi = some o ∧ evL L o = some (.int k (h : Int)))
    (h1 : l ≤ h) (h2 : h ≤ (xs ++ sp).length)
    (hk : ∀ a', a' = a.put (some d) (GL.cut v l h E.n) → Fr n a' ((d, GL.cut v l h E.n) :: L) → wpList P ops Q rest a' w) :
    wpList P ops Q (⟨some d, .slice t x lo hi none, ty, pos, af, g⟩ :: rest) a w := by
  obtain ⟨A, cap, hv, hc⟩ := hp.shape hi'
  exact st_cut hf hd ht he hw hx hv hlo hhi h1 (Nat.le_trans h2 hc) hk
end ops
end GL
