/- Own library, part U: floats made whole (math.Floor, math.Trunc); parts of elements that are read later. -/
import Derived.Test.YtgdhjjdgghilhaaGreatGlY
import GoSem.Extern.MathFloor
import Derived.KernelRfl
set_option linter.unusedVariables false
set_option linter.unusedSimpArgs false
namespace GL
open Go Go.Op

def fint (way : Ieee.Toward) : Fl → Fl
  | .bits b => match FloatKind.f64.decode b with
    | .nan _ _ => .nan
    | d => .bits (FloatKind.f64.encode (d.integral way))
  | .nan => .nan

theorem nan_quiet (s : Bool) (t : Nat) : isNaN64 (FloatKind.f64.encode (.nan s (FloatKind.f64.format.quiet t))) = true := by
  rw [nan_key]
  have e : FloatKind.f64.encode (.nan s (FloatKind.f64.format.quiet t)) = (if s then 2 ^ 63 + ((2 ^ 11 - 1) * 2 ^ 52 + (t ||| 2 ^ 51) % 2 ^ 52) else (2 ^ 11 - 1) * 2 ^ 52 + (t ||| 2 ^ 51) % 2 ^ 52) := rfl
  rw [e]; clear e
  have h : (t ||| 2 ^ 51) % 2 ^ 52 ≠ 0 := by
    intro h
    have h2 : ((t ||| 2 ^ 51) % 2 ^ 52).testBit 51 = true := by
      rw [Nat.testBit_mod_two_pow, Nat.testBit_or, Nat.testBit_two_pow_self]; simp
    rw [h] at h2; simp at h2
  have h3 := Nat.mod_lt (t ||| 2 ^ 51) (show 0 < 2 ^ 52 by decide)
  generalize (t ||| 2 ^ 51) % 2 ^ 52 = m at *
  cases s <;> simp only [Bool.and_eq_true, Bool.not_eq_true', decide_eq_false_iff_not, if_true, if_false, Bool.false_eq_true] <;> omega

section ops
variable {S S' : Nat → Prop} {w w' w0 : World} {v : Value} {T : TypeId} {rs : List Res} {P : Program}
variable {n : Nat} {a : Act} {L : List (Nat × Value)} {ops : Array Oper} {Q : Exit → Act → World → Prop}
  {rest : List Oper} {d : Nat} {ty : TypeId} {pos : String} {af : Array Edge} {g : Option (Nat × Bool)}
  {x y : Operand} {b : Nat} {fx : Fl}

theorem toIntegral_eq (nm : String) (way : Ieee.Toward) (b : Nat) : Extern.MathFloor.toIntegral nm way #[.float .f64 b] = (match FloatKind.f64.decode b with
    | .nan s t =>
      if FloatKind.f64.format.quiet t = t then pure (.float .f64 b) else do
      let kept ← choose (.extern "math.Floor,Ceil,Trunc,RoundToEven.signallingNaN kept" 2)
      pure (.float .f64 (if kept == 1 then b else FloatKind.f64.encode (.nan s (FloatKind.f64.format.quiet t))))
    | d => pure (.float .f64 (FloatKind.f64.encode (d.integral way)))) := rfl
theorem run_fint {nm : String} {way : Ieee.Toward} (h1 : fx.rep b) (w : World) :
    ∃ r w', (Extern.MathFloor.toIntegral nm way #[.float .f64 b]).run P w = .ok (.float .f64 r) w' ∧ (fint way fx).rep r ∧ Same w w' := by
  rw [toIntegral_eq]
  cases hd : FloatKind.f64.decode b with
  | nan s t =>
    have hb : isNaN64 b = true := by unfold isNaN64; rw [hd]; rfl
    have hr : fint way fx = .nan := by
      cases fx with
      | nan => rfl
      | bits c =>
        obtain rfl : b = c := h1
        simp only [fint, hd]
    rw [hr]
    by_cases hq : FloatKind.f64.format.quiet t = t
    · exact ⟨b, w, by simp [hd, hq], hb, Chg.refl _ w⟩
    · refine ⟨if (Question.cut (.extern "math.Floor,Ceil,Trunc,RoundToEven.signallingNaN kept" 2) (w.tape w.drawn (.extern "math.Floor,Ceil,Trunc,RoundToEven.signallingNaN kept" 2))) == 1 then b else FloatKind.f64.encode (.nan s (FloatKind.f64.format.quiet t)), w.drew, ?_, ?_, Same.drew w⟩
      · simp [hd, hq, Question.forced, Result.andThen]
      · split
        · exact hb
        · exact nan_quiet s t
  | number s m i =>
    cases fx with
    | nan => have : isNaN64 b = true := h1; simp [isNaN64, hd, Ieee.Datum.isNaN] at this
    | bits c =>
      obtain rfl : b = c := h1
      exact ⟨_, w, by simp [hd]; rfl, by simp only [fint, hd]; rfl, Chg.refl _ w⟩
  | infinity s =>
    cases fx with
    | nan => have : isNaN64 b = true := h1; simp [isNaN64, hd, Ieee.Datum.isNaN] at this
    | bits c =>
      obtain rfl : b = c := h1
      exact ⟨_, w, by simp [hd]; rfl, by simp only [fint, hd]; rfl, Chg.refl _ w⟩

theorem st_fint {f : FuncId} {fn : Func} {tys : Array TypeId} {nm : String} {way : Ieee.Toward}
    (hf : Fr n a L) (hd : d < n) (hp : Hp S w0 w rs) (hfn : P.funcs[f]? = some fn) (hnm : (fn.name == "runtime.NumGoroutine") = false) (hb : fn.body.isNone = true) (hn : Extern.findNext fn = none)
    (he : Extern.find fn = some (Extern.MathFloor.toIntegral nm way))
    (hw : Region.wanted ⟨some d, .call ⟨.value x, #[y], tys⟩, ty, pos, af, g⟩ (yielded ops a.tmps) = true)
    (hx : evL L x = some (.func (.func f) #[] #[])) (hy : evL L y = some (.float .f64 b)) (h1 : fx.rep b)
    (h : ∀ a' w' r, (fint way fx).rep r → Fr n a' ((d, .float .f64 r) :: L) → Hp S w0 w' rs → wpList P ops Q rest a' w') :
    wpList P ops Q (⟨some d, .call ⟨.value x, #[y], tys⟩, ty, pos, af, g⟩ :: rest) a w := by
  obtain ⟨r, w', e1, e2, e3⟩ := run_fint (P := P) (nm := nm) (way := way) h1 w
  refine st_run hf hw rfl hd (v := .float .f64 r) (w' := w') ?_ fun a' _ hf' => h a' w' r e2 hf' (hp.same e3)
  simp only [execOp, resolve, hf.ev hx, Deferred.ofValue, Sem.run_bind]
  have := run_callFunc_extern hfn hnm hb hn he #[.float .f64 b] w
  rw [e1] at this
  simp [Sem.run, pure, Result.andThen, invoke, hf.ev hy] at this ⊢
  simp [this]
end ops
end GL
namespace GL
open Go
variable {α β : Type} {E : Ek α} {F : Ek β} {S : Nat → Prop} {w0 : World} {v : Value} {o : Nat} {gg : α → β} {s : α → β → α}

theorem RdS.pinPart [Inhabited α] {xs : List α} {p : Int} (A : Sub E F o gg s) (h : RdS E S w0 v xs) (h0 : 0 ≤ p) (h1 : p < xs.length) :
    ∃ ds, F.rep ds (gg (gt xs p)) ∧ ∀ (w : World) (rs : List Res), Hp S w0 w rs → ∃ bb oo, optr (eptr v p E.n) o = .pointer (some ⟨bb, oo, none⟩) ∧ ∀ j, j < F.n → w.cell? ⟨bb, oo + j, none⟩ = ds[j]? := by
  obtain ⟨B, cap, rfl, _, _, h4⟩ := h
  obtain ⟨g, o1, cs, rfl, e2, e3, e4⟩ := h4 (by omega)
  have hr := e3.2 _ _ (gt_of h0 h1)
  have hl := e3.1
  have hn := E.len _ _ hr
  have hfit := A.fit
  refine ⟨_, A.get _ _ hr, fun w rs hp => ⟨g, o1 + p.toNat * E.n + o, by simp [optr, eptr, Addr.add_lit], fun j hj => ?_⟩⟩
  have hb : (p.toNat + 1) * E.n ≤ xs.length * E.n := Nat.mul_le_mul_right _ (by omega)
  rw [Nat.succ_mul] at hb
  rw [cell_same (hp.old g e2).2, show o1 + p.toNat * E.n + o + j = o1 + (p.toNat * E.n + (o + j)) by omega, e4 _ (by omega), List.getElem?_take_of_lt hj, List.getElem?_drop, List.getElem?_take_of_lt (by omega), List.getElem?_drop]
theorem RdS.pinPF [Inhabited α] {xs : List α} {p : Int} {gg : α → Fl} {s : α → Fl → α} (A : Sub E Ek.f64 o gg s) (h : RdS E S w0 v xs) (h0 : 0 ≤ p) (h1 : p < xs.length) :
    ∃ b, (gg (gt xs p)).rep b ∧ ∀ (w : World) (rs : List Res), Hp S w0 w rs → ∃ bb oo, optr (eptr v p E.n) o = .pointer (some ⟨bb, oo, none⟩) ∧ w.cell? ⟨bb, oo, none⟩ = some (.float .f64 b) := by
  obtain ⟨ds, ⟨c, rfl, e2⟩, e3⟩ := RdS.pinPart A h h0 h1
  refine ⟨c, e2, fun w rs hp => ?_⟩
  obtain ⟨bb, oo, e4, e5⟩ := e3 w rs hp
  exact ⟨bb, oo, e4, by simpa using e5 0 (by decide)⟩
theorem RdS.pinPC [Inhabited α] {xs : List α} {p : Int} {gg : α → Fl × Fl} {s : α → Fl × Fl → α} (A : Sub E Ek.c128 o gg s) (h : RdS E S w0 v xs) (h0 : 0 ≤ p) (h1 : p < xs.length) :
    ∃ b c, (gg (gt xs p)).1.rep b ∧ (gg (gt xs p)).2.rep c ∧ ∀ (w : World) (rs : List Res), Hp S w0 w rs → ∃ bb oo, optr (eptr v p E.n) o = .pointer (some ⟨bb, oo, none⟩) ∧ w.cell? ⟨bb, oo, none⟩ = some (.complex .f64 b c) := by
  obtain ⟨ds, ⟨c, c', rfl, e2, e2'⟩, e3⟩ := RdS.pinPart A h h0 h1
  refine ⟨c, c', e2, e2', fun w rs hp => ?_⟩
  obtain ⟨bb, oo, e4, e5⟩ := e3 w rs hp
  exact ⟨bb, oo, e4, by simpa using e5 0 (by decide)⟩
end GL
namespace GL
open Go
variable {P : Program} {ops : Array Oper} {Q : Exit → Act → World → Prop} {md : Region.Mode} {C : World → Prop} {Nk : List Nat}
variable {n : Nat} {a : Act} {L : List (Nat × Value)} {w : World} {M : Act → World → Prop} {m : Nat} {listed : Array Bool}
theorem dr_takeK (i : Nat) {oi : Oper} (v : Value) {d : Nat} (hi : ops[i]? = some oi) (hfr : Fr n a L) (hw : Region.wanted oi (yielded ops a.tmps) = true)
    (hy : ∀ w, C w → wpList P ops (Exit.then (fun a' w' => a' = a.put (some d) v ∧ w' = w) noQ) [oi] a w) (hC : C w)
    (h : ∀ a', Fr n a' ((d, v) :: L) → anyP P md ops (Exit.then M noQ) C Nk m (listed.setIfInBounds i true) a' w)
    (hk : (waitAll md ops Nk i && Region.noSelect ops && Region.free md ops listed i && (Region.ready md ops listed).contains i && freeOp oi.op) = true := by kernel_rfl)
    (hdst : oi.dst = some d := by rfl) (hd : d < n := by decide) : anyP P md ops (Exit.then M noQ) C Nk (m + 1) listed a w := by
  simp only [Bool.and_eq_true] at hk
  obtain ⟨⟨⟨⟨h1, h2⟩, h3⟩, h4⟩, h5⟩ := hk
  exact dr_take i v hi h1 h2 h3 h4 h5 hdst hfr hd hw hy hC h
theorem dr_outK (i : Nat) {oi : Oper} {d : Nat} (hi : ops[i]? = some oi) (hfr : Fr n a L) (hn : lk L d = none) (hw : Region.wanted oi (yielded ops a.tmps) = false) (hC : C w)
    (h : ∀ a', Fr n a' L → anyP P md ops (Exit.then M noQ) C Nk m (listed.setIfInBounds i true) a' w)
    (hk : (waitAll md ops Nk i && Region.noSelect ops && Region.free md ops listed i && (Region.ready md ops listed).contains i) = true := by kernel_rfl)
    (hdst : oi.dst = some d := by rfl) (hd : d < n := by decide) : anyP P md ops (Exit.then M noQ) C Nk (m + 1) listed a w := by
  simp only [Bool.and_eq_true] at hk
  obtain ⟨⟨⟨h1, h2⟩, h3⟩, h4⟩ := hk
  exact dr_out i hi h1 h2 h3 h4 hdst hfr hd hn hw hC h
theorem tk {v : Value} {d : Nat} {L' : List (Nat × Value)} : ∀ a', a' = a.put (some d) v → Fr n a' L' → wpList P ops (Exit.then (fun a' w' => a' = a.put (some d) v ∧ w' = w) noQ) [] a' w :=
  fun _ ha hf => st_nil hf (th_n ⟨ha, rfl⟩)
theorem nx {Y : World → Prop} {X : Act → World → Prop} (hf : Fr n a L) (hC : Y w) (h : X a w) : wpList P ops (Exit.then (fun a' w' => Y w' ∧ X a' w') noQ) [] a w :=
  st_nil hf (th_n ⟨hC, h⟩)
end GL
