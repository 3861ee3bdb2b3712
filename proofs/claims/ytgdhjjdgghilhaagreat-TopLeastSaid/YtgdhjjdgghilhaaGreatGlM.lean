/- Own library, part M: floats and complex numbers without rounding: signs, parts, comparisons, bits. -/
import Derived.Test.YtgdhjjdgghilhaaGreatGlL
import Derived.Laws.Cover2
import Derived.Laws.Cover3
import Derived.Laws.Externs
set_option linter.unusedVariables false
set_option linter.unusedSimpArgs false
namespace GL
open Go Go.Op

def fneg : Fl → Fl
  | .bits b => .bits (negFloat .f64 b)
  | .nan => .nan
theorem rung_neg (b : Nat) : (b ^^^ 2 ^ 63) % 2 ^ 63 = b % 2 ^ 63 := by
  apply Nat.eq_of_testBit_eq
  intro i
  simp only [Nat.testBit_mod_two_pow, Nat.testBit_xor, Nat.testBit_two_pow]
  by_cases h : i < 63
  · have : ¬ 63 = i := by omega
    simp [h, this]
  · simp [h]
theorem nan_neg (b : Nat) (h : isNaN64 b = true) : isNaN64 (negFloat .f64 b) = true := by
  have key : ∀ w : Nat, isNaN64 w = (!decide (w % 2 ^ 63 < 2 ^ 52) && !decide (w % 2 ^ 63 < (2 ^ 11 - 1) * 2 ^ 52) && !decide (w % 2 ^ 63 = (2 ^ 11 - 1) * 2 ^ 52)) := by
    intro w
    show (Ieee.Format.read Ieee.double w).isNaN = _
    have e1 : Ieee.double.signWeight = 2 ^ 63 := rfl
    have e2 : Ieee.double.binade = 2 ^ 52 := rfl
    have e3 : Ieee.double.infRung = (2 ^ 11 - 1) * 2 ^ 52 := rfl
    simp only [Ieee.Format.read, e1, e2, e3]
    split
    · simp_all [Ieee.Datum.isNaN]
    · split
      · simp_all [Ieee.Datum.isNaN]
      · split
        · simp_all [Ieee.Datum.isNaN]
        · simp_all [Ieee.Datum.isNaN]
  have e : negFloat .f64 b = b ^^^ 2 ^ 63 := rfl
  rw [key, e, rung_neg, ← key]; exact h
theorem fneg_rep {x : Fl} {b : Nat} (h : x.rep b) : (fneg x).rep (negFloat .f64 b) := by
  cases x with
  | bits c => obtain rfl : b = c := h; rfl
  | nan => exact nan_neg b h

def fcmp : Fl → Fl → Option Ordering
  | .bits a, .bits b => FloatKind.f64.format.order a b
  | _, _ => none
theorem order_nanL {a b : Nat} (h : isNaN64 a = true) : FloatKind.f64.format.order a b = none := by
  unfold isNaN64 at h
  have : (FloatKind.f64.format.read a).isNaN = true := h
  unfold Ieee.Format.order
  cases hh : FloatKind.f64.format.read a <;> simp [hh, Ieee.Datum.isNaN] at this
  simp [Ieee.Datum.order]
theorem order_nanR {a b : Nat} (h : isNaN64 b = true) : FloatKind.f64.format.order a b = none := by
  unfold isNaN64 at h
  have : (FloatKind.f64.format.read b).isNaN = true := h
  unfold Ieee.Format.order
  cases hh : FloatKind.f64.format.read b <;> simp [hh, Ieee.Datum.isNaN] at this
  cases FloatKind.f64.format.read a <;> simp [Ieee.Datum.order]
theorem fcmp_rep {x y : Fl} {a b : Nat} (h : x.rep a) (k : y.rep b) : FloatKind.f64.format.order a b = fcmp x y := by
  cases x with
  | bits c =>
    cases y with
    | bits d => obtain rfl : a = c := h; obtain rfl : b = d := k; rfl
    | nan => exact order_nanR k
  | nan => exact order_nanL h
def feq (x y : Fl) : Bool := fcmp x y == some .eq
def fne (x y : Fl) : Bool := fcmp x y != some .eq
def flt (x y : Fl) : Bool := fcmp x y == some .lt
def fle (x y : Fl) : Bool := fcmp x y == some .lt || fcmp x y == some .eq
def fgt (x y : Fl) : Bool := fcmp x y == some .gt
def fge (x y : Fl) : Bool := fcmp x y == some .gt || fcmp x y == some .eq
def ceq (x y : Fl × Fl) : Bool := feq x.1 y.1 && feq x.2 y.2
def fbits : Fl → Option Int
  | .bits b => some (b : Int)
  | .nan => none
theorem fbits_rep {x : Fl} {b : Nat} {r : Int} (h : x.rep b) (k : fbits x = some r) : r = (b : Int) := by
  cases x with
  | bits c => obtain rfl : b = c := h; exact (Option.some.inj k).symm
  | nan => cases k

section ops
variable {S S' : Nat → Prop} {w w' w0 : World} {v : Value} {T : TypeId} {rs : List Res} {P : Program}
variable {n : Nat} {a : Act} {L : List (Nat × Value)} {ops : Array Oper} {Q : Exit → Act → World → Prop}
  {rest : List Oper} {d : Nat} {ty : TypeId} {pos : String} {af : Array Edge} {g : Option (Nat × Bool)}
  {t t' e : TypeId} {x y z : Operand} {k k' : IntKind} {p q : Int} {u : Value} {b c b' c' : Nat} {fx fy : Fl}

theorem st_fneg (hf : Fr n a L) (hd : d < n) (hw : Region.wanted ⟨some d, .unOp .neg t x, ty, pos, af, g⟩ (yielded ops a.tmps) = true)
    (hx : evL L x = some (.float .f64 b))
    (h : ∀ a', a' = a.put (some d) (.float .f64 (negFloat .f64 b)) → Fr n a' ((d, .float .f64 (negFloat .f64 b)) :: L) → wpList P ops Q rest a' w) :
    wpList P ops Q (⟨some d, .unOp .neg t x, ty, pos, af, g⟩ :: rest) a w := by
  refine st_run hf hw rfl hd (v := .float .f64 (negFloat .f64 b)) (w' := w) ?_ h
  simp [execOp, hf.ev hx, Op.unary, Result.andThen]
theorem st_fcmp {op : BinOp} {r : Bool} (hr : ∀ w : World, (binOp op t (.float .f64 b) (.float .f64 c)).run P w = .ok (.bool r) w) (hf : Fr n a L) (hd : d < n)
    (hw : Region.wanted ⟨some d, .binOp op t x y t', ty, pos, af, g⟩ (yielded ops a.tmps) = true)
    (hx : evL L x = some (.float .f64 b)) (hy : evL L y = some (.float .f64 c))
    (h : ∀ a', a' = a.put (some d) (.bool r) → Fr n a' ((d, .bool r) :: L) → wpList P ops Q rest a' w) :
    wpList P ops Q (⟨some d, .binOp op t x y t', ty, pos, af, g⟩ :: rest) a w := by
  exact st_run hf hw rfl hd (execBin op _ _ (.inr trivial) (hf.ev hx) (hf.ev hy) (hr w)) h
theorem r_feq (hx : fx.rep b) (hy : fy.rep c) (w : World) : (binOp .eql t (.float .f64 b) (.float .f64 c)).run P w = .ok (.bool (feq fx fy)) w := by
  rw [binOp_float_cmp_eql, fcmp_rep hx hy]; rfl
theorem r_fne (hx : fx.rep b) (hy : fy.rep c) (w : World) : (binOp .neq t (.float .f64 b) (.float .f64 c)).run P w = .ok (.bool (fne fx fy)) w := by
  rw [binOp_float_cmp_neq, fcmp_rep hx hy]; rfl
theorem r_flt (hx : fx.rep b) (hy : fy.rep c) (w : World) : (binOp .lss t (.float .f64 b) (.float .f64 c)).run P w = .ok (.bool (flt fx fy)) w := by
  have : binOp .lss t (.float .f64 b) (.float .f64 c) = pure (.bool (FloatKind.f64.format.order b c == some .lt)) := by simp [Go.binOp, Op.floatCmp]
  rw [this, fcmp_rep hx hy]; rfl
theorem r_fle (hx : fx.rep b) (hy : fy.rep c) (w : World) : (binOp .leq t (.float .f64 b) (.float .f64 c)).run P w = .ok (.bool (fle fx fy)) w := by
  rw [binOp_float_cmp_leq, fcmp_rep hx hy]; rfl
theorem r_fgt (hx : fx.rep b) (hy : fy.rep c) (w : World) : (binOp .gtr t (.float .f64 b) (.float .f64 c)).run P w = .ok (.bool (fgt fx fy)) w := by
  have : binOp .gtr t (.float .f64 b) (.float .f64 c) = pure (.bool (FloatKind.f64.format.order b c == some .gt)) := by simp [Go.binOp, Op.floatCmp]
  rw [this, fcmp_rep hx hy]; rfl
theorem r_fge (hx : fx.rep b) (hy : fy.rep c) (w : World) : (binOp .geq t (.float .f64 b) (.float .f64 c)).run P w = .ok (.bool (fge fx fy)) w := by
  rw [binOp_float_cmp_geq, fcmp_rep hx hy]; rfl
theorem st_ccmp {op : BinOp} {r : Bool} (hr : ∀ w : World, (binOp op t (.complex .f64 b c) (.complex .f64 b' c')).run P w = .ok (.bool r) w) (hf : Fr n a L) (hd : d < n)
    (hw : Region.wanted ⟨some d, .binOp op t x y t', ty, pos, af, g⟩ (yielded ops a.tmps) = true)
    (hx : evL L x = some (.complex .f64 b c)) (hy : evL L y = some (.complex .f64 b' c'))
    (h : ∀ a', a' = a.put (some d) (.bool r) → Fr n a' ((d, .bool r) :: L) → wpList P ops Q rest a' w) :
    wpList P ops Q (⟨some d, .binOp op t x y t', ty, pos, af, g⟩ :: rest) a w := by
  exact st_run hf hw rfl hd (execBin op _ _ (.inr trivial) (hf.ev hx) (hf.ev hy) (hr w)) h
theorem r_ceq {x y : Fl × Fl} (h1 : x.1.rep b) (h2 : x.2.rep c) (h3 : y.1.rep b') (h4 : y.2.rep c') (w : World) : (binOp .eql t (.complex .f64 b c) (.complex .f64 b' c')).run P w = .ok (.bool (ceq x y)) w := by
  simp [Go.binOp, Op.complexOp, Op.Complex.cmp, Op.floatCmp, fcmp_rep h1 h3, fcmp_rep h2 h4, ceq, feq]
  rfl
theorem st_real {ts : Array TypeId} (hf : Fr n a L) (hd : d < n) (hw : Region.wanted ⟨some d, .call ⟨.builtin .real, #[x], ts⟩, ty, pos, af, g⟩ (yielded ops a.tmps) = true)
    (hx : evL L x = some (.complex .f64 b c))
    (h : ∀ a', a' = a.put (some d) (.float .f64 b) → Fr n a' ((d, .float .f64 b) :: L) → wpList P ops Q rest a' w) :
    wpList P ops Q (⟨some d, .call ⟨.builtin .real, #[x], ts⟩, ty, pos, af, g⟩ :: rest) a w := by
  refine st_run hf hw rfl hd (v := .float .f64 b) (w' := w) ?_ h
  simp [execOp, resolve, invoke, builtin, hf.ev hx, run_real, Result.andThen]
theorem st_imag {ts : Array TypeId} (hf : Fr n a L) (hd : d < n) (hw : Region.wanted ⟨some d, .call ⟨.builtin .imag, #[x], ts⟩, ty, pos, af, g⟩ (yielded ops a.tmps) = true)
    (hx : evL L x = some (.complex .f64 b c))
    (h : ∀ a', a' = a.put (some d) (.float .f64 c) → Fr n a' ((d, .float .f64 c) :: L) → wpList P ops Q rest a' w) :
    wpList P ops Q (⟨some d, .call ⟨.builtin .imag, #[x], ts⟩, ty, pos, af, g⟩ :: rest) a w := by
  refine st_run hf hw rfl hd (v := .float .f64 c) (w' := w) ?_ h
  simp [execOp, resolve, invoke, builtin, hf.ev hx, run_imag, Result.andThen]
theorem st_complex {ts : Array TypeId} (hf : Fr n a L) (hd : d < n) (hw : Region.wanted ⟨some d, .call ⟨.builtin .complex, #[x, y], ts⟩, ty, pos, af, g⟩ (yielded ops a.tmps) = true)
    (hx : evL L x = some (.float .f64 b)) (hy : evL L y = some (.float .f64 c))
    (h : ∀ a', a' = a.put (some d) (.complex .f64 b c) → Fr n a' ((d, .complex .f64 b c) :: L) → wpList P ops Q rest a' w) :
    wpList P ops Q (⟨some d, .call ⟨.builtin .complex, #[x, y], ts⟩, ty, pos, af, g⟩ :: rest) a w := by
  refine st_run hf hw rfl hd (v := .complex .f64 b c) (w' := w) ?_ h
  simp [execOp, resolve, invoke, builtin, hf.ev hx, hf.ev hy, run_complex, Result.andThen]

theorem st_extern {f : FuncId} {fn : Func} {l : List Operand} {vs : List Value} {tys : Array TypeId} {ex : Array Value → Sem Value} {r : Value}
    (hf : Fr n a L) (hd : d < n) (hfn : P.funcs[f]? = some fn) (hnm : (fn.name == "runtime.NumGoroutine") = false) (hb : fn.body.isNone = true) (hn : Extern.findNext fn = none) (he : Extern.find fn = some ex)
    (hw : Region.wanted ⟨some d, .call ⟨.value x, l.toArray, tys⟩, ty, pos, af, g⟩ (yielded ops a.tmps) = true)
    (hx : evL L x = some (.func (.func f) #[] #[])) (hl : evs L l = some vs)
    (hr : (ex vs.toArray).run P w = .ok r w)
    (h : ∀ a', a' = a.put (some d) r → Fr n a' ((d, r) :: L) → wpList P ops Q rest a' w) :
    wpList P ops Q (⟨some d, .call ⟨.value x, l.toArray, tys⟩, ty, pos, af, g⟩ :: rest) a w := by
  refine st_run hf hw rfl hd (v := r) (w' := w) ?_ h
  have hm := hf.evs hl
  simp only [execOp, resolve, hf.ev hx, hm, Deferred.ofValue, Sem.run_bind]
  have := run_callFunc_extern hfn hnm hb hn he vs.toArray w
  rw [hr] at this
  simp [Sem.run, pure, Result.andThen, invoke] at this ⊢
  simp [this]
end ops
end GL
