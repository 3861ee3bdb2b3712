/- Own library, part E: append, make, slices written out, slicing. -/
import Derived.Test.YtgdhjjdgghilhaaGreatGlD
set_option linter.unusedVariables false
set_option linter.unusedSimpArgs false
namespace GL
open Go

variable {α : Type} {E : Ek α} {S S' : Nat → Prop} {w w' w0 : World} {v u : Value} {xs ys sp : List α} {T : TypeId} {rs : List Res} {P : Program}
  {t e ty : TypeId} {bytes : Nat} {z0 : α} {i : Nat}

theorem cellsAt_list {b o : Nat} {cs : List Value} (h : cellsAt w b o cs) : ∀ (j : Nat) (u : Value), cs[j]? = some u → w.cell? ((⟨b, o, none⟩ : Addr).add j) = some u := by
  intro j u hj
  rw [Addr.add_lit, h j (List.getElem?_eq_some_iff.1 hj).1, hj]

theorem ones_of_reps {cs : List Value} (h : E.reps cs xs) : ∀ u ∈ cs, u.oneCell' = true := by
  intro u hu
  obtain ⟨j, hj, rfl⟩ := List.getElem_of_mem hu
  have hlt : j / E.n < xs.length := by
    rw [Nat.div_lt_iff_lt_mul E.pos, ← h.1]; exact hj
  have hr := h.2 _ _ (List.getElem?_eq_getElem hlt)
  refine E.one _ _ hr _ ?_
  have hm : j % E.n < E.n := Nat.mod_lt _ E.pos
  have e1 : (cs.drop (j / E.n * E.n))[j % E.n]? = some cs[j] := by
    rw [List.getElem?_drop, Nat.div_add_mod', List.getElem?_eq_getElem hj]
  have e2 : ((cs.drop (j / E.n * E.n)).take E.n)[j % E.n]? = some cs[j] := by rw [List.getElem?_take_of_lt hm, e1]
  exact List.mem_of_getElem? e2

theorem own_new {cur : Array Value} {g cap : Nat} {w : World} (hg : w.heap[g]? = some (.cells cur T (0, 0))) (hc : xs.length ≤ cap) (hm : cap ≤ maxLen) (hs : cur.size = cap * E.n)
    {cs : List Value} (hr : E.reps cs xs) (ht : cur.toList.take cs.length = cs) : (Res.sl E T (.slice (some ⟨g, 0, none⟩) xs.length cap) xs).own (fun k => k = g) w := by
  refine .inr ⟨g, 0, cap, cur, rfl, fun _ => Iff.rfl, hg, by simpa using hc, hm, by rw [hs, Nat.zero_add]; exact Nat.le_refl _, ?_⟩
  simp only [List.append_nil, List.drop_zero]
  rw [← hr.1, ht]
  exact hr

theorem own_at {cur : Array Value} {g o cap : Nat} {w : World} (hg : w.heap[g]? = some (.cells cur T (0, 0))) (hc : xs.length ≤ cap) (hm : cap ≤ maxLen) (hs : o + cap * E.n ≤ cur.size)
    {cs : List Value} (hr : E.reps cs xs) (ht : (cur.toList.drop o).take cs.length = cs) : (Res.sl E T (.slice (some ⟨g, o, none⟩) xs.length cap) xs).own (fun k => k = g) w := by
  refine .inr ⟨g, o, cap, cur, rfl, fun _ => Iff.rfl, hg, by simpa using hc, hm, hs, ?_⟩
  simp only [List.append_nil]
  rw [← hr.1, ht]
  exact hr
theorem run_append_roomO {w : World} (t ty e : TypeId) (i : TypeInfo) (ht : P.underlying t = some (.slice e)) (hi : P.info? e = some i)
    (g o sLen sCap : Nat) (cur : Array Value) (hg : w.heap[g]? = some (.cells cur e (0, 0)))
    (a : Addr) (m c : Nat) (news : List Value) (hl : news.length = m * i.size) (hnews : ∀ j u, news[j]? = some u → w.cell? (a.add j) = some u) (h1 : ∀ u ∈ news, u.oneCell' = true)
    (hroom : sLen + m ≤ sCap) (hfit : o + sLen * i.size + news.length ≤ cur.size) :
    (Builtin.append_ #[t, t] ty #[.slice (some ⟨g, o, none⟩) sLen sCap, .slice (some a) m c]).run P w =
      .ok (.slice (some ⟨g, o, none⟩) (sLen + m) sCap) (w.setRow g (cur.toList.take (o + sLen * i.size) ++ news ++ cur.toList.drop (o + sLen * i.size + news.length)).toArray) := by
  have hf := run_firstCells_some (P := P) w i.size m a m c news hl hnews
  have hst := run_storeCells_at P g (o + sLen * i.size) e news 0 cur w hg (by simpa using hfit) h1
  simp only [Nat.add_zero] at hst
  simp [Builtin.append_, run_underlying ht, Go.sizeOf, typeInfo, hi, Builtin.lenOf, hroom, hf, Addr.add_lit, hst]

theorem append_own (he : ElT P E e bytes z0) (ht : P.underlying t = some (.slice e)) (hp : Hp S w0 w rs) (hi : rs[i]? = some (Res.slx E e v xs sp))
    (hs : Sl E w u ys) (hb1 : 0 < bytes) (hb : (xs.length + ys.length) * bytes ≤ 140737488355328) :
    ∃ v' w', (Builtin.append_ #[t, t] ty #[v, u]).run P w = .ok v' w' ∧ Hp S w0 w' (rs.set i (Res.sl E e v' (xs ++ ys))) := by
  obtain ⟨inf, z, i1, i2, i3, i4, i5⟩ := he.out
  have hml : xs.length + ys.length ≤ 140737488355328 := Nat.le_trans (Nat.le_mul_of_pos_right _ hb1) hb
  have hmax : xs.length + ys.length ≤ maxLen := by simp only [maxLen]; omega
  obtain ⟨A, c, rfl, hc1, hc2, hc3⟩ := hs
  rcases Nat.eq_zero_or_pos ys.length with h0 | h0
  · have hy : ys = [] := List.eq_nil_of_length_eq_zero h0
    subst hy
    refine ⟨v, w, ?_, by simpa using hp.forget hi⟩
    obtain ⟨fp, ho, _⟩ := hp.take hi
    have hfc : (Builtin.firstCells inf.size 0 (.slice A 0 c)).run P w = .ok #[] w := by
      cases A with
      | none => simp [Builtin.firstCells]
      | some a => simp [Builtin.firstCells, loadCells, loadCellsFrom]
    rcases ho with ⟨rfl, rfl, rfl, _⟩ | ⟨g, o', cap, cur, rfl, h2, h3, h4, h5, h6, h7⟩
    · simp [Builtin.append_, run_underlying ht, Go.sizeOf, typeInfo, i1, Builtin.lenOf, hfc]
    · have : xs.length ≤ cap := by simp at h4; omega
      simp [Builtin.append_, run_underlying ht, Go.sizeOf, typeInfo, i1, Builtin.lenOf, hfc, this, storeCells]
  · obtain ⟨b, o, cs, rfl, _, hr, hcells⟩ := hc3 h0
    have hl : cs.length = ys.length * inf.size := by rw [i3]; exact hr.1
    have hnews := cellsAt_list hcells
    have h1 := ones_of_reps hr
    have hz : z.cells.size = E.n := by have := E.len _ _ i5; simpa using this
    obtain ⟨fp, ho, _, K⟩ := hp.take hi
    rcases ho with ⟨rfl, rfl, rfl, h4⟩ | ⟨g, o', cap, cur, rfl, h2, h3, h4, h5, h6, h7⟩
    · have hrun := run_append_nil (P := P) w t ty e inf z ht i1 i2 ⟨b, o, none⟩ ys.length c cs hl hnews h0 (by omega) (by rw [i4]; simp at hb; omega)
      refine ⟨_, _, hrun, K _ _ (fun k => k = w.heap.size) ?_ ?_ (fun k hk => .inr (by omega))⟩
      · exact ⟨rfl, rfl, rfl, by simp, fun k hk _ => heap_alloc_old w.drew _ k hk⟩
      · simp only [List.nil_append]
        have hge := grownCap_ge w ys.length 0 e
        refine own_new (heap_alloc_new w.drew _) hge (grownCap_le_maxLen w _ 0 e (by simp at hmax; exact hmax)) ?_ hr ?_
        · simp only [Array.size_append, List.size_toArray, size_zeroCells, hz, hl, i3, ← Nat.add_mul]
          congr 1; omega
        · simp
    · have hxs : E.reps ((cur.toList.drop o').take (xs.length * E.n)) xs := by
        have := reps_take h7
        rwa [List.take_take, Nat.min_eq_left (Nat.mul_le_mul_right _ (by simp))] at this
      have hcap : xs.length ≤ cap := by simp at h4; omega
      have hxl : ((cur.toList.drop o').take (xs.length * E.n)).length = xs.length * E.n := hxs.1
      by_cases hroom : xs.length + ys.length ≤ cap
      · have hfit : o' + xs.length * inf.size + cs.length ≤ cur.size := by rw [hl, i3, Nat.add_assoc, ← Nat.add_mul]; exact Nat.le_trans (Nat.add_le_add_left (Nat.mul_le_mul_right _ hroom) _) h6
        have hrun := run_append_roomO (P := P) t ty e inf ht i1 g o' xs.length cap cur h3 ⟨b, o, none⟩ ys.length c cs hl hnews h1 hroom hfit
        refine ⟨_, _, hrun, K _ _ fp (chg_setRow w g _ ((h2 g).2 rfl)) ?_ (fun k hk => .inl hk)⟩
        have hlen : (xs ++ ys).length = xs.length + ys.length := by simp
        rw [← hlen]
        have := own_at (E := E) (o := o') (xs := xs ++ ys) (cap := cap) (setRow_heap w g cur ((cur.toList.take (o' + xs.length * inf.size) ++ cs ++ cur.toList.drop (o' + xs.length * inf.size + cs.length)).toArray) e _ h3)
          (by rw [hlen]; exact hroom) h5 ?_ (reps_append hxs hr) ?_
        · refine cast (congrArg (fun f => (Res.sl E e (.slice (some ⟨g, o', none⟩) (xs ++ ys).length cap) (xs ++ ys)).own f _) ?_) this
          funext k; exact propext (h2 k).symm
        · simp only [List.size_toArray, List.length_append, List.length_take, List.length_drop, Array.length_toList]
          omega
        · rw [splice_drop _ _ _ _ _ (by simpa using hfit), i3]; exact List.take_left
      · have hrun := run_append_grow (P := P) w t ty e inf z ht i1 i2 ⟨g, o', none⟩ xs.length cap ((cur.toList.drop o').take (xs.length * E.n)) (by rw [hxl, i3]) (cellsAt_list (cells_of_dtake h3))
          ⟨b, o, none⟩ ys.length c cs hl hnews (by omega) (by omega) (growslice_fits (by omega) (by rw [i4]; exact hb))
        refine ⟨_, _, hrun, K _ _ (fun k => k = w.heap.size) ?_ ?_ (fun k hk => .inr (by omega))⟩
        · exact ⟨rfl, rfl, rfl, by simp, fun k hk _ => heap_alloc_old w.drew _ k hk⟩
        · have hlen : (xs ++ ys).length = xs.length + ys.length := by simp
          rw [← hlen]
          have hge := grownCap_ge w (xs ++ ys).length cap e
          refine own_new (heap_alloc_new w.drew _) hge (grownCap_le_maxLen w _ cap e (by rw [hlen]; exact hmax)) ?_ (reps_append hxs hr) ?_
          · simp only [Array.size_append, List.size_toArray, size_zeroCells, hz, hl, i3, hxl, ← Nat.add_mul]
            congr 1; omega
          · simp only [Array.toList_append, List.append_assoc]
            rw [← List.append_assoc]
            exact List.take_left

section ops
variable {n : Nat} {a : Act} {L : List (Nat × Value)} {ops : Array Oper} {Q : Exit → Act → World → Prop}
  {rest : List Oper} {d : Nat} {pos : String} {af : Array Edge} {g : Option (Nat × Bool)}
  {x y : Operand} {k k' : IntKind} {p q : Int}

theorem st_append (hf : Fr n a L) (hd : d < n) (he : ElT P E e bytes z0) (ht : P.underlying t = some (.slice e)) (hb1 : 0 < bytes)
    (hp : Hp S w0 w rs) (hi : rs[i]? = some (Res.slx E e v xs sp))
    (hw : Region.wanted ⟨some d, .call ⟨.builtin .append, #[x, y], #[t, t]⟩, ty, pos, af, g⟩ (yielded ops a.tmps) = true)
    (hx : evL L x = some v) (hy : evL L y = some u) (hs : Sl E w u ys) (hb : (xs.length + ys.length) * bytes ≤ 140737488355328)
    (h : ∀ a' w' v', Fr n a' ((d, v') :: L) → Hp S w0 w' (rs.set i (Res.sl E e v' (xs ++ ys))) → wpList P ops Q rest a' w') :
    wpList P ops Q (⟨some d, .call ⟨.builtin .append, #[x, y], #[t, t]⟩, ty, pos, af, g⟩ :: rest) a w := by
  obtain ⟨v', w', hrun, hp'⟩ := append_own (ty := ty) he ht hp hi hs hb1 hb
  refine st_run hf hw rfl hd (v := v') (w' := w') ?_ fun a' _ hf' => h a' w' v' hf' hp'
  simp [execOp, resolve, invoke, builtin, hf.ev hx, hf.ev hy, hrun, Result.andThen]

theorem reps_made {z : Value} {z0 : α} (h : E.rep z.cells.toList z0) : ∀ c l : Nat, l ≤ c → E.reps ((madeCells z.cells (c * E.n)).toList.take (l * E.n)) (List.replicate l z0) := by
  intro c l hlc
  have hz : z.cells.size = E.n := by have := E.len _ _ h; simpa using this
  have hle : l * E.n ≤ c * E.n := Nat.mul_le_mul_right _ hlc
  refine ⟨by rw [List.length_take, Array.length_toList, size_madeCells, Nat.min_eq_left hle]; simp, fun j x hx => ?_⟩
  have hj : j < l := by have := (List.getElem?_eq_some_iff.1 hx).1; simpa using this
  have hx' : x = z0 := by
    rw [List.getElem?_eq_getElem (by simpa using hj)] at hx; simpa using hx.symm
  subst hx'
  refine cast (congrArg (fun c => E.rep c x) ?_) h
  apply List.ext_getElem?
  intro m
  have hb : j * E.n + E.n ≤ l * E.n := by rw [← Nat.succ_mul]; exact Nat.mul_le_mul_right _ hj
  by_cases hm : m < E.n
  · rw [List.getElem?_take_of_lt hm, List.getElem?_drop, List.getElem?_take_of_lt (by omega)]
    have e1 : (j * E.n + m) % z.cells.size = m := by rw [hz, Nat.mul_comm, Nat.mul_add_mod]; exact Nat.mod_eq_of_lt hm
    have e2 : j * E.n + m < c * E.n := by omega
    have e3 : m < z.cells.size := by omega
    simp [madeCells, e2, hz, Nat.mul_add_mod', Nat.mod_eq_of_lt hm]
    rw [Array.getElem?_eq_getElem e3]; simp [e3]
  · rw [List.getElem?_eq_none (by simpa [hz] using hm), List.getElem?_eq_none (by simp; omega)]

theorem st_make (hf : Fr n a L) (hd : d < n) (he : ElT P E e bytes z0) (ht : P.underlying t = some (.slice e)) (hb1 : 0 < bytes) (hp : Hp S w0 w rs)
    (hw : Region.wanted ⟨some d, .makeSlice t x y, ty, pos, af, g⟩ (yielded ops a.tmps) = true)
    (hx : evL L x = some (.int k p)) (hy : evL L y = some (.int k' q)) (h0 : 0 ≤ p) (h1 : p ≤ q) (hb : q * bytes ≤ 281474976710656)
    (h : ∀ a' w' v', Fr n a' ((d, v') :: L) → Hp S w0 w' (Res.sl E e v' (List.replicate p.toNat z0) :: rs) → wpList P ops Q rest a' w') :
    wpList P ops Q (⟨some d, .makeSlice t x y, ty, pos, af, g⟩ :: rest) a w := by
  obtain ⟨inf, z, i1, i2, i3, i4, i5⟩ := he.out
  have hq : q ≤ 281474976710656 := by
    have : q * 1 ≤ q * bytes := Int.mul_le_mul_of_nonneg_left (by omega) (by omega)
    omega
  have hrun := run_make (P := P) w t e inf z ht i1 i2 k k' p q h0 h1 (by rw [i4, Int.mul_comm]; exact hb) (by omega)
  refine st_run hf hw rfl hd (v := .slice (some ⟨w.heap.size, 0, none⟩) p.toNat q.toNat) (w' := w.alloc (.cells (madeCells z.cells (q.toNat * inf.size)) e)) ?_
    fun a' _ hf' => h a' _ _ hf' (hp.push (Same.alloc w _) (fp := fun k => k = w.heap.size) ?_ (fun k hk => by omega))
  · simp [execOp, hf.ev hx, hf.ev hy, hrun, Result.andThen]
  · have hpq : p.toNat ≤ q.toNat := by omega
    have hrep := reps_made (E := E) i5 q.toNat p.toNat hpq
    have := own_new (E := E) (T := e) (xs := List.replicate p.toNat z0) (g := w.heap.size) (cap := q.toNat) (heap_alloc_new w (.cells (madeCells z.cells (q.toNat * inf.size)) e)) (by simpa using hpq) (by simp only [maxLen]; omega)
      (by rw [size_madeCells, i3]) hrep (by
        have : p.toNat * E.n ≤ q.toNat * E.n := Nat.mul_le_mul_right _ hpq
        rw [i3, List.length_take, Array.length_toList, size_madeCells, Nat.min_eq_left this])
    simpa using this

theorem st_build (hf : Fr n a L) (hd : d < n) (he : ElT P E e bytes z0) (ht : P.underlying t = some (.slice e)) (hp : Hp S w0 w rs)
    {m : Nat} {parts : Array (Nat × Operand)} {vals : Array (Nat × Value)} {cells : Array Value}
    (hw : Region.wanted ⟨some d, .buildSlice t m parts, ty, pos, af, g⟩ (yielded ops a.tmps) = true)
    (hv : parts.map (fun (i, x) => (i, a.eval x)) = vals) (hm : m * E.n ≤ 16777216) (hm0 : 0 < m * E.n)
    {z : Value} (hz : (P.info? e).map (·.zero) = some (some z))
    (hfill : Instr.fill (fun i => some (i * E.n, E.n)) ((Array.range (m * E.n)).map (z.cells[· % z.cells.size]!)) vals.toList = some cells)
    (hl : xs.length = m) (hr : E.reps cells.toList xs)
    (h : ∀ a' w' v', Fr n a' ((d, v') :: L) → Hp S w0 w' (Res.sl E e v' xs :: rs) → wpList P ops Q rest a' w') :
    wpList P ops Q (⟨some d, .buildSlice t m parts, ty, pos, af, g⟩ :: rest) a w := by
  obtain ⟨inf, z', i1, i2, i3, i4, i5⟩ := he.out
  have hzz : z' = z := by simp [i1, i2] at hz; exact hz
  subst hzz
  have hm' : ¬ (16777216 < m * E.n) := by omega
  have hm0' : ¬ (m * E.n = 0) := by omega
  refine st_run hf hw rfl hd (v := .slice (some ⟨w.heap.size, 0, none⟩) m m) (w' := w.alloc (.cells cells e)) ?_
    fun a' _ hf' => h a' _ _ hf' (hp.push (Same.alloc w _) (fp := fun k => k = w.heap.size) ?_ (fun k hk => by omega))
  · simp only [execOp, hv]
    simp only [Instr.buildSlice]
    simp [run_underlying ht, Go.sizeOf, typeInfo, zeroValue, i1, i2, i3, hm', hm0', hfill, newRow, Result.andThen]
  · subst hl
    have hcl : cells.size = xs.length * E.n := by have := hr.1; simpa using this
    exact own_new (heap_alloc_new w _) (Nat.le_refl _) (by
      have : xs.length ≤ xs.length * E.n := Nat.le_mul_of_pos_right _ E.pos
      simp only [maxLen]; omega) hcl hr (by
        rw [List.take_of_length_le (Nat.le_refl _)])

theorem st_build0 (hf : Fr n a L) (hd : d < n) (he : ElT P E e bytes z0) (ht : P.underlying t = some (.slice e)) (hp : Hp S w0 w rs)
    (hw : Region.wanted ⟨some d, .buildSlice t 0 #[], ty, pos, af, g⟩ (yielded ops a.tmps) = true)
    (h : ∀ a' w' v', Fr n a' ((d, v') :: L) → Hp S w0 w' (Res.sl E e v' [] :: rs) → wpList P ops Q rest a' w') :
    wpList P ops Q (⟨some d, .buildSlice t 0 #[], ty, pos, af, g⟩ :: rest) a w := by
  obtain ⟨inf, z', i1, i2, i3, i4, i5⟩ := he.out
  refine st_run hf hw rfl hd (v := .slice (some ⟨w.heap.size, 0, none⟩) 0 0) (w' := w.alloc (.cells #[] e)) ?_
    fun a' _ hf' => h a' _ _ hf' (hp.push (Same.alloc w _) (fp := fun k => k = w.heap.size) ?_ (fun k hk => by omega))
  · simp [execOp, Instr.buildSlice, run_underlying ht, Go.sizeOf, typeInfo, i1, i3, Instr.fill, newRow, Result.andThen, Array.range_zero']
  · exact own_new (xs := ([] : List α)) (heap_alloc_new w _) (Nat.le_refl _) (by simp [maxLen]) (by simp) (reps_nil E) (by simp)

def cut (v : Value) (lo hi sz : Nat) : Value :=
  match v with
  | .slice A _ c => .slice (if c = lo then A else A.map (·.add (lo * sz))) (hi - lo) (c - lo)
  | _ => undef

theorem RdS.cut (h : RdS E S w v xs) {lo hi : Nat} (h1 : lo ≤ hi) (h2 : hi ≤ xs.length) : RdS E S w (cut v lo hi E.n) ((xs.drop lo).take (hi - lo)) := by
  obtain ⟨A, cap, rfl, k1, k2, k3⟩ := h
  have hl : ((xs.drop lo).take (hi - lo)).length = hi - lo := by simp; omega
  refine ⟨if cap = lo then A else A.map (·.add (lo * E.n)), cap - lo, by simp [GL.cut, hl], by omega, by omega, fun h0 => ?_⟩
  obtain ⟨b, o, cs, rfl, e2, e3, e4⟩ := k3 (by omega)
  have hne : cap ≠ lo := by omega
  refine ⟨b, o + lo * E.n, _, by simp [hne, Addr.add_lit], e2, reps_sub e3 lo (hi - lo) (by omega), fun j hj => ?_⟩
  have hb : lo * E.n + (hi - lo) * E.n ≤ cs.length := by rw [e3.1, ← Nat.add_mul]; exact Nat.mul_le_mul_right _ (by omega)
  have hj' : j < (hi - lo) * E.n := by simp at hj; omega
  rw [Nat.add_assoc, e4 _ (by omega), List.getElem?_take_of_lt hj', List.getElem?_drop]

theorem run_cut (ht : P.underlying t = some (.slice e)) (he : ElT P E e bytes z0) {A : Option Addr} {len cap : Nat} {lo hi : Option Value} {l h : Nat}
    (hlo : lo = none ∧ l = 0 ∨ ∃ k, lo = some (.int k l)) (hhi : hi = none ∧ h = len ∨ ∃ k, hi = some (.int k h)) (h1 : l ≤ h) (h2 : h ≤ cap) (w : World) :
    (Instr.sliceAt t (.slice A len cap) lo hi none).run P w = .ok (GL.cut (.slice A len cap) l h E.n) w := by
  obtain ⟨inf, z, i1, i2, i3, i4, i5⟩ := he.out
  have hb : ∀ (k : IntKind) (i y : Nat) (code : BoundsCode), i ≤ y → (Instr.sliceBound (.int k (i : Int)) y code).run P w = .ok i w := fun k i y code hi => by
    simp [Instr.sliceBound, asIntOf, show (i : Int) ≤ (y : Int) by omega, show (0 : Int) ≤ (i : Int) by omega]
  have hbs : (Instr.sliceBounds true len cap lo hi none).run P w = .ok (l, h, cap) w := by
    rcases hlo with ⟨rfl, rfl⟩ | ⟨kl, rfl⟩ <;> rcases hhi with ⟨rfl, rfl⟩ | ⟨kh, rfl⟩ <;> simp [Instr.sliceBounds, hb _ _ _ _ h1, hb _ _ _ _ h2]
  simp [Instr.sliceAt, Instr.slice, run_underlying ht, hbs, Go.sizeOf, typeInfo, i1, i3, GL.cut]

theorem st_cut (hf : Fr n a L) (hd : d < n) (ht : P.underlying t = some (.slice e)) (he : ElT P E e bytes z0) {lo hi : Option Operand} {l h : Nat} {A : Option Addr} {len cap : Nat}
    (hw : Region.wanted ⟨some d, .slice t x lo hi none, ty, pos, af, g⟩ (yielded ops a.tmps) = true)
    (hx : evL L x = some v) (hv : v = .slice A len cap)
    (hlo : lo = none ∧ l = 0 ∨ ∃ k o, lo = some o ∧ evL L o = some (.int k (l : Int))) (hhi : hi = none ∧ h = len ∨ ∃ k o, hi = some o ∧ evL L o = some (.int k (h : Int)))
    (h1 : l ≤ h) (h2 : h ≤ cap)
    (hk : ∀ a', a' = a.put (some d) (GL.cut v l h E.n) → Fr n a' ((d, GL.cut v l h E.n) :: L) → wpList P ops Q rest a' w) :
    wpList P ops Q (⟨some d, .slice t x lo hi none, ty, pos, af, g⟩ :: rest) a w := by
  subst hv
  have r := run_cut (P := P) (A := A) (len := len) (cap := cap) (lo := lo.map a.eval) (hi := hi.map a.eval) (l := l) (h := h) ht he
    (hlo.imp (fun ⟨e1, e2⟩ => ⟨by rw [e1]; rfl, e2⟩) (fun ⟨k, o, e1, e2⟩ => ⟨k, by rw [e1]; simp [hf.ev e2]⟩))
    (hhi.imp (fun ⟨e1, e2⟩ => ⟨by rw [e1]; rfl, e2⟩) (fun ⟨k, o, e1, e2⟩ => ⟨k, by rw [e1]; simp [hf.ev e2]⟩)) h1 h2 w
  refine st_run hf hw rfl hd (v := GL.cut (.slice A len cap) l h E.n) (w' := w) ?_ hk
  simp [execOp, hf.ev hx, r, Result.andThen]
end ops
end GL
