/- Own library, part S: strings: parts, sums; bytes and a string appended. -/
import Derived.Test.YtcooefnbolobaaaGlR
import Derived.Laws.Concat
import Derived.Lib.AppendStr
set_option linter.unusedVariables false
set_option linter.unusedSimpArgs false
namespace GL
open Go Go.Lib

variable {S S' : Nat → Prop} {w w' w0 : World} {v : Value} {xs sp : List Int} {T : TypeId} {rs : List Res} {P : Program}
section ops
variable {n : Nat} {a : Act} {L : List (Nat × Value)} {ops : Array Oper} {Q : Exit → Act → World → Prop}
  {rest : List Oper} {d : Nat} {ty : TypeId} {pos : String} {af : Array Edge} {g : Option (Nat × Bool)}
  {t t' e : TypeId} {x y z : Operand} {k k' : IntKind} {p q : Int} {u : Value} {i : Nat} {s s' : ByteArray}

theorem st_strLH (hf : Fr n a L) (hd : d < n) (ht : P.underlying t = some .string)
    (hw : Region.wanted ⟨some d, .slice t x (some y) (some z) none, ty, pos, af, g⟩ (yielded ops a.tmps) = true)
    (hx : evL L x = some (.string s)) (hy : evL L y = some (.int k p)) (hz : evL L z = some (.int k' q)) (hc : 0 ≤ p ∧ p ≤ q ∧ q ≤ (s.size : Int))
    (h : ∀ a', a' = a.put (some d) (.string (s.extract p.toNat q.toNat)) → Fr n a' ((d, .string (s.extract p.toNat q.toNat)) :: L) → wpList P ops Q rest a' w) :
    wpList P ops Q (⟨some d, .slice t x (some y) (some z) none, ty, pos, af, g⟩ :: rest) a w := by
  refine st_run hf hw rfl hd (v := .string (s.extract p.toNat q.toNat)) (w' := w) ?_ h
  have := run_slice_string (P := P) w t s k k' p q ht hc.1 hc.2.1 hc.2.2
  simp [execOp, Instr.sliceAt, run_underlying ht, hf.ev hx, hf.ev hy, hf.ev hz, this, Result.andThen]
theorem st_strL (hf : Fr n a L) (hd : d < n) (ht : P.underlying t = some .string)
    (hw : Region.wanted ⟨some d, .slice t x (some y) none none, ty, pos, af, g⟩ (yielded ops a.tmps) = true)
    (hx : evL L x = some (.string s)) (hy : evL L y = some (.int k p)) (hc : 0 ≤ p ∧ p ≤ (s.size : Int))
    (h : ∀ a', a' = a.put (some d) (.string (s.extract p.toNat s.size)) → Fr n a' ((d, .string (s.extract p.toNat s.size)) :: L) → wpList P ops Q rest a' w) :
    wpList P ops Q (⟨some d, .slice t x (some y) none none, ty, pos, af, g⟩ :: rest) a w := by
  refine st_run hf hw rfl hd (v := .string (s.extract p.toNat s.size)) (w' := w) ?_ h
  have := run_slice_string_from_if (P := P) w t s k p ht
  rw [if_pos hc] at this
  simp [execOp, Instr.sliceAt, run_underlying ht, hf.ev hx, hf.ev hy, this, Result.andThen]
theorem st_strH (hf : Fr n a L) (hd : d < n) (ht : P.underlying t = some .string)
    (hw : Region.wanted ⟨some d, .slice t x none (some y) none, ty, pos, af, g⟩ (yielded ops a.tmps) = true)
    (hx : evL L x = some (.string s)) (hy : evL L y = some (.int k p)) (hc : 0 ≤ p ∧ p ≤ (s.size : Int))
    (h : ∀ a', a' = a.put (some d) (.string (s.extract 0 p.toNat)) → Fr n a' ((d, .string (s.extract 0 p.toNat)) :: L) → wpList P ops Q rest a' w) :
    wpList P ops Q (⟨some d, .slice t x none (some y) none, ty, pos, af, g⟩ :: rest) a w := by
  refine st_run hf hw rfl hd (v := .string (s.extract 0 p.toNat)) (w' := w) ?_ h
  have := run_slice_string_to_if (P := P) w t s k p ht
  rw [if_pos hc] at this
  simp [execOp, Instr.sliceAt, run_underlying ht, hf.ev hx, hf.ev hy, this, Result.andThen]
theorem st_strA (hf : Fr n a L) (hd : d < n) (ht : P.underlying t = some .string)
    (hw : Region.wanted ⟨some d, .slice t x none none none, ty, pos, af, g⟩ (yielded ops a.tmps) = true)
    (hx : evL L x = some (.string s))
    (h : ∀ a', a' = a.put (some d) (.string (s.extract 0 s.size)) → Fr n a' ((d, .string (s.extract 0 s.size)) :: L) → wpList P ops Q rest a' w) :
    wpList P ops Q (⟨some d, .slice t x none none none, ty, pos, af, g⟩ :: rest) a w := by
  refine st_run hf hw rfl hd (v := .string (s.extract 0 s.size)) (w' := w) ?_ h
  have := run_slice_string_all (P := P) w t s ht
  simp [execOp, Instr.sliceAt, run_underlying ht, hf.ev hx, this, Result.andThen]
theorem st_sadd (hf : Fr n a L) (hd : d < n) (hw : Region.wanted ⟨some d, .binOp .add t x y t', ty, pos, af, g⟩ (yielded ops a.tmps) = true)
    (hx : evL L x = some (.string s)) (hy : evL L y = some (.string s')) (hc : s.size + s'.size ≤ 9223372036854775807)
    (h : ∀ a', a' = a.put (some d) (.string (s ++ s')) → Fr n a' ((d, .string (s ++ s')) :: L) → wpList P ops Q rest a' w) :
    wpList P ops Q (⟨some d, .binOp .add t x y t', ty, pos, af, g⟩ :: rest) a w :=
  st_run hf hw rfl hd (execBin .add _ _ (.inr trivial) (hf.ev hx) (hf.ev hy) (by rw [binOp_string_add, run_string_add_sum w s s' hc])) h

theorem strCells_rep (s : ByteArray) : strCells s = byteCells s.data.toList := by
  simp [strCells, byteCells]
theorem run_append_room_stringO {P : Program} {w : World} (t u ty e : TypeId) (i : TypeInfo) (ht : P.underlying t = some (.slice e)) (hu : P.underlying u = some .string) (hi : P.info? e = some i) (hs1 : i.size = 1)
    (g o sLen sCap : Nat) (cur : Array Value) (hg : w.heap[g]? = some (.cells cur e (0, 0))) (s : ByteArray)
    (hroom : sLen + s.size ≤ sCap) (hfit : o + sLen + s.size ≤ cur.size) :
    (Builtin.append_ #[t, u] ty #[.slice (some ⟨g, o, none⟩) sLen sCap, .string s]).run P w =
      .ok (.slice (some ⟨g, o, none⟩) (sLen + s.size) sCap) (w.setRow g (cur.toList.take (o + sLen) ++ strCells s ++ cur.toList.drop (o + sLen + s.size)).toArray) := by
  have hf := run_firstCells_string (P := P) w 1 s
  have hst := run_storeCells_at P g (o + sLen) e (strCells s) 0 cur w hg (by simpa [strCells_length] using hfit) (strCells_oneCell s)
  simp only [Nat.add_zero, strCells_length] at hst
  simp [Builtin.append_, run_underlying ht, run_underlying hu, Go.sizeOf, typeInfo, hi, hs1, Builtin.lenOf, hroom, hf, Addr.add_lit, hst]
theorem append_str {z0 : Int} (he : ElT P (Ek.int .u8) e 1 z0) (ht : P.underlying t = some (.slice e)) (hu : P.underlying t' = some .string) (hp : Hp S w0 w rs) (hi : rs[i]? = some (Res.slx (Ek.int .u8) e v xs sp))
    (hb : xs.length + s.size ≤ 140737488355328) :
    ∃ v' w', (Builtin.append_ #[t, t'] ty #[v, .string s]).run P w = .ok v' w' ∧ Hp S w0 w' (rs.set i (Res.sl (Ek.int .u8) e v' (xs ++ sbytes s))) := by
  obtain ⟨inf, z, i1, i2, i3, i4, i5⟩ := he.out
  have hz : z.cells.size = 1 := by have := (Ek.int .u8).len _ _ i5; simpa [Ek.int] using this
  have hmax : xs.length + s.size ≤ maxLen := by simp only [maxLen]; omega
  have hsl := sbytes_len s
  have hsr := sbytes_rep s
  have hcl : (strCells s).length = s.size := strCells_length s
  rw [← strCells_rep] at hsr
  have i3' : inf.size = 1 := i3
  obtain ⟨fp, ho, _, K⟩ := hp.take hi
  rcases ho with ⟨rfl, rfl, rfl, h4⟩ | ⟨g, o', cap, cur, rfl, h2, h3, h4, h5, h6, h7⟩
  · by_cases h0 : s.size = 0
    · have hsb : sbytes s = [] := List.eq_nil_of_length_eq_zero (by omega)
      rw [hsb]
      refine ⟨.slice none 0 0, w, ?_, hp.forget hi⟩
      have hf := run_firstCells_string (P := P) w inf.size s
      rw [h0] at hf
      have : strCells s = [] := List.eq_nil_of_length_eq_zero (by omega)
      rw [this] at hf
      simp [Builtin.append_, run_underlying ht, run_underlying hu, Go.sizeOf, typeInfo, i1, Builtin.lenOf, hf, h0]
    · have hrun := run_append_nil_string (P := P) w t t' ty e inf z ht hu i1 i2 s (by omega) (by omega) (by rw [i4]; omega)
      refine ⟨_, _, hrun, K _ _ (fun k => k = w.heap.size) ?_ ?_ (fun k hk => .inr (by omega))⟩
      · exact ⟨rfl, rfl, rfl, by simp, fun k hk _ => heap_alloc_old w.drew _ k hk⟩
      · simp only [List.nil_append]
        have hge := grownCap_ge w s.size 0 e
        have := own_new (E := Ek.int .u8) (xs := sbytes s) (cap := grownCap w s.size 0 e) (heap_alloc_new w.drew (.cells (s.data.map (fun b => Value.int .u8 b.toNat) ++ Builtin.zeroCells z.cells (grownCap w s.size 0 e - s.size)) e))
          (by rw [hsl]; exact hge) (grownCap_le_maxLen w _ 0 e (by simp only [List.length_nil, Nat.zero_add] at hmax; exact hmax)) ?_ hsr ?_
        · rw [hsl] at this; exact this
        · have : (s.data.map (fun b => Value.int .u8 b.toNat)).size = s.size := by rw [Array.size_map]; rfl
          simp only [Array.size_append, size_zeroCells, hz, this, Ek.int]; omega
        · have hsc : strCells s = (s.data.map (fun b => Value.int .u8 b.toNat)).toList := by simp [strCells]
          simp only [Array.toList_append]
          rw [hsc, List.take_left]
  · have hxs : (Ek.int .u8).reps ((cur.toList.drop o').take (xs.length * 1)) xs := by
      have := reps_take h7
      rwa [List.take_take, Nat.min_eq_left (Nat.mul_le_mul_right _ (by simp))] at this
    simp only [Nat.mul_one] at hxs
    simp only [Ek.int, Nat.mul_one] at h6
    have hcap : xs.length ≤ cap := by simp at h4; omega
    have hxl : ((cur.toList.drop o').take xs.length).length = xs.length := by have := hxs.1; simpa [Ek.int] using this
    have hlen : (xs ++ sbytes s).length = xs.length + s.size := by simp [hsl]
    by_cases hroom : xs.length + s.size ≤ cap
    · have hrun := run_append_room_stringO (P := P) t t' ty e inf ht hu i1 i3' g o' xs.length cap cur h3 s hroom (by omega)
      refine ⟨_, _, hrun, K _ _ fp (chg_setRow w g _ ((h2 g).2 rfl)) ?_ (fun k hk => .inl hk)⟩
      rw [← hlen]
      have := own_at (E := Ek.int .u8) (o := o') (xs := xs ++ sbytes s) (cap := cap) (setRow_heap w g cur ((cur.toList.take (o' + xs.length) ++ strCells s ++ cur.toList.drop (o' + xs.length + s.size)).toArray) e _ h3)
        (by rw [hlen]; exact hroom) h5 ?_ (reps_append hxs hsr) ?_
      · rw [hlen] at this ⊢
        refine cast (congrArg (fun f => (Res.sl (Ek.int .u8) e (.slice (some ⟨g, o', none⟩) (xs.length + s.size) cap) (xs ++ sbytes s)).own f _) ?_) this
        funext k; exact propext (h2 k).symm
      · simp only [List.size_toArray, List.length_append, List.length_take, List.length_drop, Array.length_toList, hcl, Ek.int]
        omega
      · rw [splice_drop _ _ _ _ _ (by simp only [Array.length_toList]; omega)]; exact List.take_left
    · have hrun := run_append_grow_string (P := P) w t t' ty e inf z ht hu i1 i2 ⟨g, o', none⟩ xs.length cap ((cur.toList.drop o').take xs.length) (by rw [hxl, i3']; omega) (cellsAt_list (cells_of_dtake h3))
        s (by omega) (by omega) (growslice_fits (by omega) (by rw [i4]; omega))
      refine ⟨_, _, hrun, K _ _ (fun k => k = w.heap.size) ?_ ?_ (fun k hk => .inr (by omega))⟩
      · exact ⟨rfl, rfl, rfl, by simp, fun k hk _ => heap_alloc_old w.drew _ k hk⟩
      · rw [← hlen]
        have hge := grownCap_ge w (xs ++ sbytes s).length cap e
        refine own_new (heap_alloc_new w.drew _) hge (grownCap_le_maxLen w _ cap e (by rw [hlen]; exact hmax)) ?_ (reps_append hxs hsr) ?_
        · simp only [Array.size_append, List.size_toArray, size_zeroCells, hz, hcl, hxl, Ek.int]
          rw [hlen] at hge ⊢
          omega
        · simp only [Array.toList_append, List.append_assoc]
          rw [← List.append_assoc]
          exact List.take_left
theorem st_appendStr {z0 : Int} (hf : Fr n a L) (hd : d < n) (he : ElT P (Ek.int .u8) e 1 z0) (ht : P.underlying t = some (.slice e)) (hu : P.underlying t' = some .string)
    (hp : Hp S w0 w rs) (hi : rs[i]? = some (Res.slx (Ek.int .u8) e v xs sp))
    (hw : Region.wanted ⟨some d, .call ⟨.builtin .append, #[x, y], #[t, t']⟩, ty, pos, af, g⟩ (yielded ops a.tmps) = true)
    (hx : evL L x = some v) (hy : evL L y = some (.string s)) (hb : xs.length + s.size ≤ 140737488355328)
    (h : ∀ a' w' v', Fr n a' ((d, v') :: L) → Hp S w0 w' (rs.set i (Res.sl (Ek.int .u8) e v' (xs ++ sbytes s))) → wpList P ops Q rest a' w') :
    wpList P ops Q (⟨some d, .call ⟨.builtin .append, #[x, y], #[t, t']⟩, ty, pos, af, g⟩ :: rest) a w := by
  obtain ⟨v', w', hrun, hp'⟩ := append_str (ty := ty) (s := s) he ht hu hp hi hb
  refine st_run hf hw rfl hd (v := v') (w' := w') ?_ fun a' _ hf' => h a' w' v' hf' hp'
  simp [execOp, resolve, invoke, builtin, hf.ev hx, hf.ev hy, hrun, Result.andThen]
end ops
end GL
