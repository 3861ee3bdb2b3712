/- Own library, part Ug: functions as values that are only called: what they answer is kept as a plain function. -/
import Derived.Test.YtgdhjjdgghilhaaGreatGlUf
set_option linter.unusedVariables false
set_option linter.unusedSimpArgs false
namespace GL
open Go
variable {S S' : Nat → Prop} {w w' w0 : World} {v : Value} {rs : List Res} {P : Program}
abbrev CG := Int → Option (Fl × Fl)
def RdC (P : Program) (S : Nat → Prop) (w0 : World) (v : Value) (g : CG) : Prop :=
  (∃ l r, g l = some r) → ∃ (k : Nat) (cap : List Value) (fn : Func) (c : Code), v = .func (.func k) #[] cap.toArray ∧ P.funcs[k]? = some fn ∧ (fn.name == "runtime.NumGoroutine") = false ∧ fn.body = some c ∧
    ∀ (S' : Nat → Prop) (w0' w1 : World) (ow : List Res) (l : Int) (r : Fl × Fl), (∀ k, S k → S' k) → (∀ k, S k → w0'.heap[k]? = w0.heap[k]?) → Hp S' w0' w1 ow → g l = some r →
      Calls P k (.int .i64 l :: cap).toArray w1 (fun e w' => ∃ b0 b1 : Nat, e = .returned (.complex .f64 b0 b1) ∧ Fl.rep b0 r.1 ∧ Fl.rep b1 r.2 ∧ Hp S' w0' w' ow)
theorem RdC.mono {g : CG} (h : RdC P S w v g) (hs : ∀ k, S k → S' k) : RdC P S' w v g := fun hg => by
  obtain ⟨k, cap, fn, c, e1, e2, e3, e4, hc⟩ := h hg
  exact ⟨k, cap, fn, c, e1, e2, e3, e4, fun S2 w2 w1 ow l r h1 h2 => hc S2 w2 w1 ow l r (fun k hk => h1 k (hs k hk)) (fun k hk => h2 k (hs k hk))⟩
theorem RdC.now {g : CG} (h : RdC P S w0 v g) (hp : Hp S w0 w rs) : RdC P S w v g := fun hg => by
  obtain ⟨k, cap, fn, c, e1, e2, e3, e4, hc⟩ := h hg
  exact ⟨k, cap, fn, c, e1, e2, e3, e4, fun S2 w2 w1 ow l r h1 h2 => hc S2 w2 w1 ow l r h1 (fun k hk => (h2 k hk).trans (hp.old k hk).2)⟩
def Res.clo (P : Program) (v : Value) (g : CG) : Res where
  own := fun fp w => (∀ k, fp k → k < w.heap.size) ∧ RdC P fp w v g ∧ v.oneCell' = true
  loc := by
    rintro fp w w' ⟨h1, h2, h3⟩ hk
    refine ⟨fun k hf => ?_, fun hg => ?_, h3⟩
    · have := h1 k hf
      have e := hk k hf
      rw [Array.getElem?_eq_getElem this] at e
      exact (Array.getElem?_eq_some_iff.1 e).1
    · obtain ⟨k, cap, fn, c, e1, e2, e3, e4, hc⟩ := h2 hg
      exact ⟨k, cap, fn, c, e1, e2, e3, e4, fun S2 w2 w1 ow l r g1 g2 => hc S2 w2 w1 ow l r g1 (fun k hf => (g2 k hf).trans (hk k hf))⟩
  bd := fun fp w k h hf => h.1 k hf
theorem Hp.lendC {g : CG} (hp : Hp S w0 w rs) {i : Nat} (hi : rs[i]? = some (Res.clo P v g)) :
    ∃ S' : Nat → Prop, Hp S' w w (rs.eraseIdx i) ∧ RdC P S' w v g ∧ (∀ k, S k → S' k) ∧
      ∀ (w' : World) (l : List Res), Hp S' w w' l → Hp S w0 w' (Res.clo P v g :: l) := by
  obtain ⟨S', h1, ⟨fp, h2, h3⟩, h4, h5⟩ := hp.lend hi
  exact ⟨S', h1, h2.2.1.mono h3, h4, h5⟩
theorem Hp.cloOne {g : CG} (hp : Hp S w0 w rs) {i : Nat} (hi : rs[i]? = some (Res.clo P v g)) : v.oneCell' = true := by
  obtain ⟨fp, h, _⟩ := hp.take hi
  exact h.2.2
theorem Hp.cloNone (hp : Hp S w0 w rs) (P : Program) : Hp S w0 w (Res.clo P .nilFunc (fun _ => none) :: rs) :=
  hp.push0 ⟨fun k h => h.elim, ⟨fun ⟨l, r, h⟩ => (by cases h), rfl⟩⟩
theorem Hp.mkClo {l : List (TypeId × Value × List Value)} {cap : List Value} {k : Nat} {fn : Func} {c : Code} {g : CG} (hp : Hp S w0 w (l.map (fun x => Res.obj x.1 x.2.1 x.2.2) ++ rs))
    (e2 : P.funcs[k]? = some fn) (e3 : (fn.name == "runtime.NumGoroutine") = false) (e4 : fn.body = some c)
    (h : ∀ (S' : Nat → Prop) (w0' w1 : World) (ow : List Res) (lab : Int) (r : Fl × Fl), (∀ (i : Nat) x, l[i]? = some x → RdO S' w0' x.2.1 x.2.2) → Hp S' w0' w1 ow → g lab = some r →
      Calls P k (.int .i64 lab :: cap).toArray w1 (fun e w' => ∃ b0 b1 : Nat, e = .returned (.complex .f64 b0 b1) ∧ Fl.rep b0 r.1 ∧ Fl.rep b1 r.2 ∧ Hp S' w0' w' ow)) :
    Hp S w0 w (Res.clo P (.func (.func k) #[] cap.toArray) g :: rs) := by
  refine hp.star.map0 fun fp hf => ?_
  refine ⟨fun k hk => (Res.star _).bd fp w k hf hk, fun _ => ⟨k, cap, fn, c, rfl, e2, e3, e4, fun S2 w2 w1 ow lab r g1 g2 hp2 hg => h S2 w2 w1 ow lab r (fun i x hx => ?_) hp2 hg⟩, rfl⟩
  obtain ⟨f, h1, h2, h3⟩ := hf
  have hi : (l.map (fun x => Res.obj x.1 x.2.1 x.2.2))[i]? = some (Res.obj x.1 x.2.1 x.2.2) := by rw [List.getElem?_map, hx]; rfl
  have hlt : i < (l.map (fun x => Res.obj x.1 x.2.1 x.2.2)).length := (List.getElem?_eq_some_iff.1 hi).1
  obtain ⟨b, e1, e2, e3⟩ := h1 i _ hi
  have hb : fp b := (h3 b).2 ⟨i, hlt, (e2 b).2 rfl⟩
  exact ⟨b, e1, g1 b hb, fun j hj => by simp [World.cell?, g2 b hb, e3]⟩
section ops
variable {n : Nat} {a : Act} {L : List (Nat × Value)} {ops : Array Oper} {Q : Exit → Act → World → Prop}
  {rest : List Oper} {d : Nat} {ty : TypeId} {pos : String} {af : Array Edge} {gd : Option (Nat × Bool)}
  {x y : Operand} {lab : Int}
theorem st_callC {g : CG} {q : Fl × Fl} {tys : Array TypeId} (rc : RdC P S w0 v g) (hq : g lab = some q) (hf : Fr n a L) (hd : d < n) (hp : Hp S w0 w rs)
    (hw : Region.wanted ⟨some d, .call ⟨.value x, [y].toArray, tys⟩, ty, pos, af, gd⟩ (yielded ops a.tmps) = true)
    (hx : evL L x = some v) (hl : evs L [y] = some [.int .i64 lab])
    (h : ∀ a' w' b0 b1, Fl.rep b0 q.1 → Fl.rep b1 q.2 → Hp S w0 w' rs → Fr n a' ((d, .complex .f64 b0 b1) :: L) → wpList P ops Q rest a' w') :
    wpList P ops Q (⟨some d, .call ⟨.value x, [y].toArray, tys⟩, ty, pos, af, gd⟩ :: rest) a w := by
  obtain ⟨k, cap, fn, c, rfl, e2, e3, e4, hc⟩ := rc ⟨_, _, hq⟩
  refine st_call hf hd e2 e3 e4 hw hx hl (hc S w0 w rs lab q (fun _ h => h) (fun _ _ => rfl) hp hq) ?_
  rintro _ w' ⟨b0, b1, rfl, h1, h2, hp'⟩
  exact ⟨_, rfl, fun a' hf' => h a' w' b0 b1 h1 h2 hp' hf'⟩
theorem st_makeFuncL {fn : Fn} {l : List Operand} {vs : List Value} (hf : Fr n a L) (hd : d < n) (hw : Region.wanted ⟨some d, .makeFunc fn #[] l.toArray, ty, pos, af, gd⟩ (yielded ops a.tmps) = true)
    (hl : evs L l = some vs) (h : ∀ a', a' = a.put (some d) (.func fn #[] vs.toArray) → Fr n a' ((d, .func fn #[] vs.toArray) :: L) → wpList P ops Q rest a' w) :
    wpList P ops Q (⟨some d, .makeFunc fn #[] l.toArray, ty, pos, af, gd⟩ :: rest) a w := by
  have hm := hf.evs hl
  exact st_run hf hw rfl hd (by simp [execOp, hm, Instr.makeFunc, Sem.run, pure, bind, Sem.bind]) h
theorem st_idxArr {xs : List Int} {cs : List Value} {N : Nat} {kk k : IntKind} {p : Int} {t e : TypeId} (hf : Fr n a L) (hd : d < n) (ht : P.underlying t = some (.array N e)) (hpl : Plain P e) (hsz : (P.info? e).map (·.size) = some 1)
    (hw : Region.wanted ⟨some d, .index t x y, ty, pos, af, gd⟩ (yielded ops a.tmps) = true)
    (hx : evL L x = some (.agg cs.toArray)) (hy : evL L y = some (.int k p)) (hr : (Ek.int kk).reps cs xs) (hl : xs.length = N) (h0 : 0 ≤ p) (h1 : p < (N : Int))
    (h : ∀ a', a' = a.put (some d) (.int kk (gt xs p)) → Fr n a' ((d, .int kk (gt xs p)) :: L) → wpList P ops Q rest a' w) :
    wpList P ops Q (⟨some d, .index t x y, ty, pos, af, gd⟩ :: rest) a w := by
  obtain ⟨inf, h3, h4⟩ := Option.map_eq_some_iff.1 hsz
  have hc : cs[p.toNat]? = some (.int kk (gt xs p)) := by
    have := hr.2 p.toNat (gt xs p) (gt_of h0 (by omega))
    have e1 : (cs.drop (p.toNat * 1)).take 1 = [.int kk (gt xs p)] := this
    rw [Nat.mul_one] at e1
    have e2 := congrArg (·[0]?) e1
    simpa using e2
  have hlt : p.toNat < cs.length := (List.getElem?_eq_some_iff.1 hc).1
  refine st_run hf hw rfl hd (w' := w) ?_ h
  have ha := hpl.run w
  obtain ⟨m, rfl⟩ : ∃ m : Nat, p = (m : Int) := ⟨p.toNat, by omega⟩
  rw [Int.toNat_natCast] at hc hlt
  have hg : cs[m] = .int kk (gt xs (m : Int)) := (List.getElem?_eq_some_iff.1 hc).2
  have hN : m < N := by omega
  simp [execOp, hf.ev hx, hf.ev hy, Instr.index, asIntOf, run_underlying ht, Go.sizeOf, typeInfo, h3, h4, Result.andThen, part, ha, hN, hlt, hg]
end ops
end GL
