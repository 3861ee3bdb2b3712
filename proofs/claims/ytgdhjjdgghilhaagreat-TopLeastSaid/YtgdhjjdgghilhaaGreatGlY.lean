/- Own library, part Y: float arithmetic. -/
import Derived.Test.YtgdhjjdgghilhaaGreatGlX
import Derived.Laws.FloatArith
import Derived.Laws.ComplexArith
set_option linter.unusedVariables false
set_option linter.unusedSimpArgs false
namespace GL
open Go Go.Op

def farith (op : BinOp) : Fl → Fl → Fl
  | .bits a, .bits b => match floatBits op .f64 a b with
    | some r => .bits r
    | none => .nan
  | _, _ => .nan
abbrev fadd := farith .add
abbrev fsub := farith .sub
abbrev fmul := farith .mul
def farithS (op : BinOp) : Fl → Fl → Option Fl
  | .bits a, .bits b => (floatBits op .f64 a b).map .bits
  | _, _ => none
def flb : Fl → Nat
  | .bits b => b
  | .nan => 0
def isArith : BinOp → Bool
  | .add | .sub | .mul | .quo => true
  | _ => false

theorem nan_key (w : Nat) : isNaN64 w = (!decide (w % 2 ^ 63 < 2 ^ 52) && !decide (w % 2 ^ 63 < (2 ^ 11 - 1) * 2 ^ 52) && !decide (w % 2 ^ 63 = (2 ^ 11 - 1) * 2 ^ 52)) := by
  show (Ieee.Format.read Ieee.double w).isNaN = _
  have e1 : Ieee.double.signWeight = 2 ^ 63 := rfl
  have e2 : Ieee.double.binade = 2 ^ 52 := rfl
  have e3 : Ieee.double.infRung = (2 ^ 11 - 1) * 2 ^ 52 := rfl
  simp only [Ieee.Format.read, e1, e2, e3]
  split
  · simp_all [Ieee.Datum.isNaN]
  · split
    · simp_all [Ieee.Datum.isNaN]
    · split
      · simp_all [Ieee.Datum.isNaN]
      · simp_all [Ieee.Datum.isNaN]
theorem nan_cut (x y t : Nat) : isNaN64 (Question.cut (.nanBits .f64 x y) t) = true := by
  rw [nan_key]
  have ec : Question.cut (.nanBits .f64 x y) t = (t % 2) * 2 ^ 63 + 0x7ff0000000000000 + 1 + (t / 2) % (2 ^ 52 - 1) := rfl
  rw [ec]
  clear ec
  have h1 := Nat.mod_lt (t / 2) (show 0 < 2 ^ 52 - 1 by decide)
  have h2 := Nat.mod_lt t (show 0 < 2 by decide)
  generalize (t / 2) % (2 ^ 52 - 1) = m at *
  generalize t % 2 = s at *
  have e : (s * 2 ^ 63 + 0x7ff0000000000000 + 1 + m) % 2 ^ 63 = 0x7ff0000000000000 + 1 + m := by omega
  simp only [e, Bool.and_eq_true, Bool.not_eq_true', decide_eq_false_iff_not]
  omega
theorem bits_nanL {op : BinOp} {a b : Nat} (h : isNaN64 a = true) : floatBits op .f64 a b = none := by
  have : (FloatKind.f64.format.read a).isNaN = true := h
  unfold floatBits
  cases hh : FloatKind.f64.format.read a <;> simp [hh, Ieee.Datum.isNaN] at this
  cases op <;> simp [Ieee.Format.add, Ieee.Format.sub, Ieee.Format.mul, Ieee.Format.div, hh, Ieee.Datum.sum, Ieee.Datum.product, Ieee.Datum.quotient]
theorem bits_nanR {op : BinOp} {a b : Nat} (h : isNaN64 b = true) : floatBits op .f64 a b = none := by
  have : (FloatKind.f64.format.read b).isNaN = true := h
  unfold floatBits
  cases hh : FloatKind.f64.format.read b <;> simp [hh, Ieee.Datum.isNaN] at this
  cases op <;> simp only [] <;> first
    | rfl
    | (simp only [Ieee.Format.add, Ieee.Format.sub, Ieee.Format.mul, Ieee.Format.div, hh]
       cases FloatKind.f64.format.read a <;> simp [Ieee.Datum.sum, Ieee.Datum.product, Ieee.Datum.quotient, Ieee.Datum.opposite])

section ops
variable {S S' : Nat → Prop} {w w' w0 : World} {v : Value} {T : TypeId} {rs : List Res} {P : Program}
variable {n : Nat} {a : Act} {L : List (Nat × Value)} {ops : Array Oper} {Q : Exit → Act → World → Prop}
  {rest : List Oper} {d : Nat} {ty : TypeId} {pos : String} {af : Array Edge} {g : Option (Nat × Bool)}
  {t t' e : TypeId} {x y z : Operand} {k k' : IntKind} {p q : Int} {u : Value} {b c b' c' : Nat} {fx fy : Fl}

theorem run_arith1 {op : BinOp} (hop : isArith op = true) (h1 : fx.rep b) (h2 : fy.rep c) (w : World) :
    ∃ r w', (Op.floatArith op .f64 b c).run P w = .ok (.float .f64 r) w' ∧ (farith op fx fy).rep r ∧ Same w w' := by
  cases hb : floatBits op .f64 b c with
  | some r =>
    refine ⟨r, w, ?_, ?_, Chg.refl _ w⟩
    · cases op <;> simp [isArith] at hop <;> (simp only [floatBits] at hb; simp [Op.floatArith, hb])
    cases fx with
    | nan => rw [bits_nanL h1] at hb; cases hb
    | bits x0 =>
      cases fy with
      | nan => rw [bits_nanR h2] at hb; cases hb
      | bits y0 =>
        obtain rfl : b = x0 := h1
        obtain rfl : c = y0 := h2
        simp only [farith, hb]
        rfl
  | none =>
    have hn : farith op fx fy = .nan := by
      cases fx with
      | nan => rfl
      | bits x0 =>
        cases fy with
        | nan => rfl
        | bits y0 =>
          obtain rfl : b = x0 := h1
          obtain rfl : c = y0 := h2
          simp only [farith, hb]
    refine ⟨Question.cut (.nanBits .f64 b c) (w.tape w.drawn (.nanBits .f64 b c)), w.drew, ?_, ?_, Same.drew w⟩
    · cases op <;> simp [isArith] at hop <;> (simp only [floatBits] at hb; simp [Op.floatArith, hb, Question.forced, Result.andThen])
    · rw [hn]; exact nan_cut b c _
theorem run_binF {op : BinOp} (hop : isArith op = true) (h1 : fx.rep b) (h2 : fy.rep c) (w : World) :
    ∃ r w', (Go.binOp op t (.float .f64 b) (.float .f64 c)).run P w = .ok (.float .f64 r) w' ∧ (farith op fx fy).rep r ∧ Same w w' := by
  obtain ⟨r, w', e1, e2, e3⟩ := run_arith1 (P := P) hop h1 h2 w
  refine ⟨r, w', ?_, e2, e3⟩
  cases op <;> simp [isArith] at hop <;> (simp only [Go.binOp]; exact e1)
theorem execBin' {op : BinOp} (hop : isArith op = true) {u v r : Value} (hx : a.eval x = u) (hy : a.eval y = v) (hr : (Go.binOp op t u v).run P w = .ok r w') :
    (execOp a.eval ⟨some d, .binOp op t x y t', ty, pos, af, g⟩).run P w = .ok (.value r) w' := by
  have hg : (eqGuard op t x y u v).run P w = .ok () w := by
    unfold eqGuard
    cases op <;> simp [isArith] at hop <;> simp [Sem.run, pure, bind, Sem.bind]
  simp only [execOp, hx, hy]
  simp [Sem.run_bind, hg, hr, Result.andThen, pure, Sem.run]
theorem st_farith {op : BinOp} (hop : isArith op = true) (hf : Fr n a L) (hd : d < n) (hp : Hp S w0 w rs)
    (hw : Region.wanted ⟨some d, .binOp op t x y t', ty, pos, af, g⟩ (yielded ops a.tmps) = true)
    (hx : evL L x = some (.float .f64 b)) (hy : evL L y = some (.float .f64 c)) (h1 : fx.rep b) (h2 : fy.rep c)
    (h : ∀ a' w' r, (farith op fx fy).rep r → Fr n a' ((d, .float .f64 r) :: L) → Hp S w0 w' rs → wpList P ops Q rest a' w') :
    wpList P ops Q (⟨some d, .binOp op t x y t', ty, pos, af, g⟩ :: rest) a w := by
  obtain ⟨r, w', e1, e2, e3⟩ := run_binF (P := P) (t := t) hop h1 h2 w
  exact st_run hf hw rfl hd (execBin' hop (hf.ev hx) (hf.ev hy) e1) fun a' _ hf' => h a' w' r e2 hf' (hp.same e3)
theorem farithS_rep {op : BinOp} {r : Fl} (h : farithS op fx fy = some r) : r.rep (flb r) := by
  cases fx <;> cases fy <;> simp only [farithS] at h <;> try (cases h; done)
  obtain ⟨z, _, rfl⟩ := Option.map_eq_some_iff.1 h
  rfl
theorem st_fs {op : BinOp} {r : Fl} (hop : isArith op = true) (hf : Fr n a L) (hd : d < n)
    (hw : Region.wanted ⟨some d, .binOp op t x y t', ty, pos, af, g⟩ (yielded ops a.tmps) = true)
    (hx : evL L x = some (.float .f64 b)) (hy : evL L y = some (.float .f64 c)) (h1 : fx.rep b) (h2 : fy.rep c) (hq : farithS op fx fy = some r)
    (h : ∀ a', a' = a.put (some d) (.float .f64 (flb r)) → Fr n a' ((d, .float .f64 (flb r)) :: L) → wpList P ops Q rest a' w) :
    wpList P ops Q (⟨some d, .binOp op t x y t', ty, pos, af, g⟩ :: rest) a w := by
  refine st_run hf hw rfl hd (v := .float .f64 (flb r)) (w' := w) (execBin' hop (hf.ev hx) (hf.ev hy) ?_) h
  cases fx with
  | nan => simp [farithS] at hq
  | bits x0 =>
    cases fy with
    | nan => simp [farithS] at hq
    | bits y0 =>
      obtain rfl : b = x0 := h1
      obtain rfl : c = y0 := h2
      simp only [farithS] at hq
      obtain ⟨z, hz, rfl⟩ := Option.map_eq_some_iff.1 hq
      exact run_float_arith w op t .f64 _ _ z hz

def carith (op : BinOp) (x y : Fl × Fl) : Fl × Fl := (farith op x.1 y.1, farith op x.2 y.2)
abbrev cadd := carith .add
def isSum : BinOp → Bool
  | .add | .sub => true
  | _ => false
theorem run_carith1 {op : BinOp} (hop : isSum op = true) (h1 : fx.rep b) (h2 : fy.rep c) (w : World) :
    ∃ r w', (Op.Complex.arith op .f64 b c).run P w = .ok r w' ∧ (farith op fx fy).rep r ∧ Same w w' := by
  obtain ⟨r, w', e1, e2, e3⟩ := run_arith1 (P := P) (op := op) (by cases op <;> simp [isSum] at hop <;> rfl) h1 h2 w
  exact ⟨r, w', by simp [Op.Complex.arith, Sem.run_bind, e1, Result.andThen, Sem.run, pure], e2, e3⟩
theorem st_carith {op : BinOp} {zx zy : Fl × Fl} (hop : isSum op = true) (hf : Fr n a L) (hd : d < n) (hp : Hp S w0 w rs)
    (hw : Region.wanted ⟨some d, .binOp op t x y t', ty, pos, af, g⟩ (yielded ops a.tmps) = true)
    (hx : evL L x = some (.complex .f64 b c)) (hy : evL L y = some (.complex .f64 b' c')) (h1 : zx.1.rep b) (h2 : zx.2.rep c) (h3 : zy.1.rep b') (h4 : zy.2.rep c')
    (h : ∀ a' w' r s, (carith op zx zy).1.rep r → (carith op zx zy).2.rep s → Fr n a' ((d, .complex .f64 r s) :: L) → Hp S w0 w' rs → wpList P ops Q rest a' w') :
    wpList P ops Q (⟨some d, .binOp op t x y t', ty, pos, af, g⟩ :: rest) a w := by
  obtain ⟨r, w1, e1, e2, e3⟩ := run_carith1 (P := P) hop h1 h3 w
  obtain ⟨s, w2, f1, f2, f3⟩ := run_carith1 (P := P) hop h2 h4 w1
  have hr : (Go.binOp op t (.complex .f64 b c) (.complex .f64 b' c')).run P w = .ok (.complex .f64 r s) w2 := by
    cases op <;> simp [isSum] at hop <;> (simp only [Go.binOp]; simp [Op.complexOp, Sem.run_bind, e1, f1, Result.andThen])
  exact st_run hf hw rfl hd (execBin' (by cases op <;> simp [isSum] at hop <;> rfl) (hf.ev hx) (hf.ev hy) hr) fun a' _ hf' => h a' w2 r s e2 f2 hf' (hp.same (e3.trans f3))

def fofi (m : Int) : Fl := .bits (FloatKind.f64.nearest m)
theorem st_conv_if {m : Int} (hs : P.underlying t = some (.int k)) (hdt : P.underlying t' = some (.float .f64)) (hf : Fr n a L) (hd : d < n)
    (hw : Region.wanted ⟨some d, .convert t t' x, ty, pos, af, g⟩ (yielded ops a.tmps) = true)
    (hx : evL L x = some (.int k m))
    (h : ∀ a', a' = a.put (some d) (.float .f64 (FloatKind.f64.nearest m)) → Fr n a' ((d, .float .f64 (FloatKind.f64.nearest m)) :: L) → wpList P ops Q rest a' w) :
    wpList P ops Q (⟨some d, .convert t t' x, ty, pos, af, g⟩ :: rest) a w := by
  have hc : (Go.convert t t' (.int k m)).run P w = .ok (.float .f64 (FloatKind.f64.nearest m)) w := by
    simp [Go.convert, run_underlying hs, run_underlying hdt, Conv.intToFloat]
  refine st_run hf hw rfl hd (w' := w) ?_ h
  simp only [execOp, hf.ev hx, Sem.run_bind, hc, Result.andThen]
  rfl
def ftoi (k : IntKind) : Fl → Option Int
  | .bits b => floatToIntVal .f64 b k
  | .nan => none
theorem st_conv_fi {m : Int} (hs : (P.underlying t).isSome = true) (hdt : P.underlying t' = some (.int k)) (hf : Fr n a L) (hd : d < n)
    (hw : Region.wanted ⟨some d, .convert t t' x, ty, pos, af, g⟩ (yielded ops a.tmps) = true)
    (hx : evL L x = some (.float .f64 b)) (h1 : fx.rep b) (hq : ftoi k fx = some m)
    (h : ∀ a', a' = a.put (some d) (.int k m) → Fr n a' ((d, .int k m) :: L) → wpList P ops Q rest a' w) :
    wpList P ops Q (⟨some d, .convert t t' x, ty, pos, af, g⟩ :: rest) a w := by
  cases fx with
  | nan => simp [ftoi] at hq
  | bits x0 =>
    obtain rfl : b = x0 := h1
    have hc := run_convert_float_int (P := P) w t t' .f64 k b m hs hdt hq
    refine st_run hf hw rfl hd (w' := w) ?_ h
    simp only [execOp, hf.ev hx, Sem.run_bind, hc, Result.andThen]
    rfl
end ops
end GL
