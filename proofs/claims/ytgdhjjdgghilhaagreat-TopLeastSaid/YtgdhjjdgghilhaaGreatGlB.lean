/- Own library, part B: whole numbers, bools, strings. -/
import Derived.Test.YtgdhjjdgghilhaaGreatGlA
import Derived.Laws.Small
import Derived.Laws.StructEq
set_option linter.unusedVariables false
set_option linter.unusedSimpArgs false
namespace GL
open Go

def iand (k : IntKind) (x y : Int) : Int := k.wrap (BitVec.ofInt k.bits x &&& BitVec.ofInt k.bits y).toNat
def ior (k : IntKind) (x y : Int) : Int := k.wrap (BitVec.ofInt k.bits x ||| BitVec.ofInt k.bits y).toNat
def ixor (k : IntKind) (x y : Int) : Int := k.wrap (BitVec.ofInt k.bits x ^^^ BitVec.ofInt k.bits y).toNat
def iandn (k : IntKind) (x y : Int) : Int := k.wrap (BitVec.ofInt k.bits x &&& ~~~(BitVec.ofInt k.bits y)).toNat
def ishl (k : IntKind) (x y : Int) : Int := k.wrap (x * 2 ^ (min y.toNat k.bits))
def ishr (k : IntKind) (x y : Int) : Int := x.fdiv (2 ^ (min y.toNat k.bits))
def seq (s t : ByteArray) : Bool := s.toList == t.toList
def bt (s : ByteArray) (i : Int) : Int := ((s.data.toList.getD i.toNat 0).toNat : Int)
def imin (x y : Int) : Int := if y < x then y else x
def imax (x y : Int) : Int := if x < y then y else x

variable {P : Program} {n : Nat} {a : Act} {L : List (Nat × Value)} {ops : Array Oper} {Q : Exit → Act → World → Prop}
  {rest : List Oper} {w : World} {d : Nat} {ty : TypeId} {pos : String} {af : Array Edge} {g : Option (Nat × Bool)}
  {t t' : TypeId} {x y z : Operand} {k k' : IntKind} {p q : Int}

theorem execBin (op : BinOp) (u v : Value) (h : (op matches .eql | .neq) = false ∨ (match u, v with | .nilIface, .nilIface => False | .agg _, .agg _ => False | _, _ => True))
    {r : Value} (hx : a.eval x = u) (hy : a.eval y = v) (hr : (binOp op t u v).run P w = .ok r w) :
    (execOp a.eval ⟨some d, .binOp op t x y t', ty, pos, af, g⟩).run P w = .ok (.value r) w := by
  have hg : (eqGuard op t x y u v).run P w = .ok () w := by
    unfold eqGuard
    rcases h with h | h
    · cases op <;> simp at h <;> simp [Sem.run, pure, bind, Sem.bind]
    · cases op <;> simp [Sem.run, pure, bind, Sem.bind] <;> (cases u <;> cases v <;> simp_all [Sem.run, pure])
  simp only [execOp, hx, hy]
  simp [Sem.run_bind, hg, hr, Result.andThen, pure, Sem.run]

section ints
variable (hf : Fr n a L) (hd : d < n)
include hf hd

theorem st_ibin (op : BinOp) (f : IntKind → Int → Int → Value)
    (hop : ∀ w, (binOp op t (.int k p) (.int k q)).run P w = .ok (f k p q) w)
    (hw : Region.wanted ⟨some d, .binOp op t x y t', ty, pos, af, g⟩ (yielded ops a.tmps) = true)
    (hx : evL L x = some (.int k p)) (hy : evL L y = some (.int k q))
    (h : ∀ a', a' = a.put (some d) (f k p q) → Fr n a' ((d, f k p q) :: L) → wpList P ops Q rest a' w) :
    wpList P ops Q (⟨some d, .binOp op t x y t', ty, pos, af, g⟩ :: rest) a w :=
  st_run hf hw rfl hd (execBin op _ _ (.inr trivial) (hf.ev hx) (hf.ev hy) (hop w)) h

theorem st_iadd (hw : Region.wanted ⟨some d, .binOp .add t x y t', ty, pos, af, g⟩ (yielded ops a.tmps) = true)
    (hx : evL L x = some (.int k p)) (hy : evL L y = some (.int k q))
    (h : ∀ a', a' = a.put (some d) (.int k (k.wrap (p + q))) → Fr n a' ((d, .int k (k.wrap (p + q))) :: L) → wpList P ops Q rest a' w) :
    wpList P ops Q (⟨some d, .binOp .add t x y t', ty, pos, af, g⟩ :: rest) a w :=
  st_ibin hf hd .add (fun k p q => .int k (k.wrap (p + q))) (fun w => by simp [binOp, Op.intArith, Sem.run, pure]) hw hx hy h
theorem st_isub (hw : Region.wanted ⟨some d, .binOp .sub t x y t', ty, pos, af, g⟩ (yielded ops a.tmps) = true)
    (hx : evL L x = some (.int k p)) (hy : evL L y = some (.int k q))
    (h : ∀ a', a' = a.put (some d) (.int k (k.wrap (p - q))) → Fr n a' ((d, .int k (k.wrap (p - q))) :: L) → wpList P ops Q rest a' w) :
    wpList P ops Q (⟨some d, .binOp .sub t x y t', ty, pos, af, g⟩ :: rest) a w :=
  st_ibin hf hd .sub (fun k p q => .int k (k.wrap (p - q))) (fun w => by simp [binOp, Op.intArith, Sem.run, pure]) hw hx hy h
theorem st_imul (hw : Region.wanted ⟨some d, .binOp .mul t x y t', ty, pos, af, g⟩ (yielded ops a.tmps) = true)
    (hx : evL L x = some (.int k p)) (hy : evL L y = some (.int k q))
    (h : ∀ a', a' = a.put (some d) (.int k (k.wrap (p * q))) → Fr n a' ((d, .int k (k.wrap (p * q))) :: L) → wpList P ops Q rest a' w) :
    wpList P ops Q (⟨some d, .binOp .mul t x y t', ty, pos, af, g⟩ :: rest) a w :=
  st_ibin hf hd .mul (fun k p q => .int k (k.wrap (p * q))) (fun w => by simp [binOp, Op.intArith, Sem.run, pure]) hw hx hy h
theorem st_iquo (hw : Region.wanted ⟨some d, .binOp .quo t x y t', ty, pos, af, g⟩ (yielded ops a.tmps) = true)
    (hx : evL L x = some (.int k p)) (hy : evL L y = some (.int k q)) (h0 : q ≠ 0)
    (h : ∀ a', a' = a.put (some d) (.int k (k.wrap (p.tdiv q))) → Fr n a' ((d, .int k (k.wrap (p.tdiv q))) :: L) → wpList P ops Q rest a' w) :
    wpList P ops Q (⟨some d, .binOp .quo t x y t', ty, pos, af, g⟩ :: rest) a w :=
  st_ibin hf hd .quo (fun k p q => .int k (k.wrap (p.tdiv q))) (fun w => by simp [binOp, Op.intDiv, h0, Sem.run, pure]) hw hx hy h
theorem st_irem (hw : Region.wanted ⟨some d, .binOp .rem t x y t', ty, pos, af, g⟩ (yielded ops a.tmps) = true)
    (hx : evL L x = some (.int k p)) (hy : evL L y = some (.int k q)) (h0 : q ≠ 0)
    (h : ∀ a', a' = a.put (some d) (.int k (p.tmod q)) → Fr n a' ((d, .int k (p.tmod q)) :: L) → wpList P ops Q rest a' w) :
    wpList P ops Q (⟨some d, .binOp .rem t x y t', ty, pos, af, g⟩ :: rest) a w :=
  st_ibin hf hd .rem (fun k p q => .int k (p.tmod q)) (fun w => by simp [binOp, Op.intDiv, h0, Sem.run, pure]) hw hx hy h
theorem st_iand (hw : Region.wanted ⟨some d, .binOp .and t x y t', ty, pos, af, g⟩ (yielded ops a.tmps) = true)
    (hx : evL L x = some (.int k p)) (hy : evL L y = some (.int k q))
    (h : ∀ a', a' = a.put (some d) (.int k (iand k p q)) → Fr n a' ((d, .int k (iand k p q)) :: L) → wpList P ops Q rest a' w) :
    wpList P ops Q (⟨some d, .binOp .and t x y t', ty, pos, af, g⟩ :: rest) a w :=
  st_ibin hf hd .and (fun k p q => .int k (iand k p q)) (fun w => by simp [binOp, Op.intBits, iand, Sem.run, pure]) hw hx hy h
theorem st_ior (hw : Region.wanted ⟨some d, .binOp .or t x y t', ty, pos, af, g⟩ (yielded ops a.tmps) = true)
    (hx : evL L x = some (.int k p)) (hy : evL L y = some (.int k q))
    (h : ∀ a', a' = a.put (some d) (.int k (ior k p q)) → Fr n a' ((d, .int k (ior k p q)) :: L) → wpList P ops Q rest a' w) :
    wpList P ops Q (⟨some d, .binOp .or t x y t', ty, pos, af, g⟩ :: rest) a w :=
  st_ibin hf hd .or (fun k p q => .int k (ior k p q)) (fun w => by simp [binOp, Op.intBits, ior, Sem.run, pure]) hw hx hy h
theorem st_ixor (hw : Region.wanted ⟨some d, .binOp .xor t x y t', ty, pos, af, g⟩ (yielded ops a.tmps) = true)
    (hx : evL L x = some (.int k p)) (hy : evL L y = some (.int k q))
    (h : ∀ a', a' = a.put (some d) (.int k (ixor k p q)) → Fr n a' ((d, .int k (ixor k p q)) :: L) → wpList P ops Q rest a' w) :
    wpList P ops Q (⟨some d, .binOp .xor t x y t', ty, pos, af, g⟩ :: rest) a w :=
  st_ibin hf hd .xor (fun k p q => .int k (ixor k p q)) (fun w => by simp [binOp, Op.intBits, ixor, Sem.run, pure]) hw hx hy h
theorem st_iandn (hw : Region.wanted ⟨some d, .binOp .andNot t x y t', ty, pos, af, g⟩ (yielded ops a.tmps) = true)
    (hx : evL L x = some (.int k p)) (hy : evL L y = some (.int k q))
    (h : ∀ a', a' = a.put (some d) (.int k (iandn k p q)) → Fr n a' ((d, .int k (iandn k p q)) :: L) → wpList P ops Q rest a' w) :
    wpList P ops Q (⟨some d, .binOp .andNot t x y t', ty, pos, af, g⟩ :: rest) a w :=
  st_ibin hf hd .andNot (fun k p q => .int k (iandn k p q)) (fun w => by simp [binOp, Op.intBits, iandn, Sem.run, pure]) hw hx hy h
theorem st_ilss (hw : Region.wanted ⟨some d, .binOp .lss t x y t', ty, pos, af, g⟩ (yielded ops a.tmps) = true)
    (hx : evL L x = some (.int k p)) (hy : evL L y = some (.int k q))
    (h : ∀ a', a' = a.put (some d) (.bool (decide (p < q))) → Fr n a' ((d, .bool (decide (p < q))) :: L) → wpList P ops Q rest a' w) :
    wpList P ops Q (⟨some d, .binOp .lss t x y t', ty, pos, af, g⟩ :: rest) a w :=
  st_ibin hf hd .lss (fun k p q => .bool (decide (p < q))) (fun w => by simp [binOp, Op.intCmp, Sem.run, pure]) hw hx hy h
theorem st_ileq (hw : Region.wanted ⟨some d, .binOp .leq t x y t', ty, pos, af, g⟩ (yielded ops a.tmps) = true)
    (hx : evL L x = some (.int k p)) (hy : evL L y = some (.int k q))
    (h : ∀ a', a' = a.put (some d) (.bool (decide (p ≤ q))) → Fr n a' ((d, .bool (decide (p ≤ q))) :: L) → wpList P ops Q rest a' w) :
    wpList P ops Q (⟨some d, .binOp .leq t x y t', ty, pos, af, g⟩ :: rest) a w :=
  st_ibin hf hd .leq (fun k p q => .bool (decide (p ≤ q))) (fun w => by simp [binOp, Op.intCmp, Sem.run, pure]) hw hx hy h
theorem st_igtr (hw : Region.wanted ⟨some d, .binOp .gtr t x y t', ty, pos, af, g⟩ (yielded ops a.tmps) = true)
    (hx : evL L x = some (.int k p)) (hy : evL L y = some (.int k q))
    (h : ∀ a', a' = a.put (some d) (.bool (decide (q < p))) → Fr n a' ((d, .bool (decide (q < p))) :: L) → wpList P ops Q rest a' w) :
    wpList P ops Q (⟨some d, .binOp .gtr t x y t', ty, pos, af, g⟩ :: rest) a w :=
  st_ibin hf hd .gtr (fun k p q => .bool (decide (q < p))) (fun w => by simp [binOp, Op.intCmp, Sem.run, pure]) hw hx hy h
theorem st_igeq (hw : Region.wanted ⟨some d, .binOp .geq t x y t', ty, pos, af, g⟩ (yielded ops a.tmps) = true)
    (hx : evL L x = some (.int k p)) (hy : evL L y = some (.int k q))
    (h : ∀ a', a' = a.put (some d) (.bool (decide (q ≤ p))) → Fr n a' ((d, .bool (decide (q ≤ p))) :: L) → wpList P ops Q rest a' w) :
    wpList P ops Q (⟨some d, .binOp .geq t x y t', ty, pos, af, g⟩ :: rest) a w :=
  st_ibin hf hd .geq (fun k p q => .bool (decide (q ≤ p))) (fun w => by simp [binOp, Op.intCmp, Sem.run, pure]) hw hx hy h
theorem st_ieql (hw : Region.wanted ⟨some d, .binOp .eql t x y t', ty, pos, af, g⟩ (yielded ops a.tmps) = true)
    (hx : evL L x = some (.int k p)) (hy : evL L y = some (.int k q))
    (h : ∀ a', a' = a.put (some d) (.bool (p == q)) → Fr n a' ((d, .bool (p == q)) :: L) → wpList P ops Q rest a' w) :
    wpList P ops Q (⟨some d, .binOp .eql t x y t', ty, pos, af, g⟩ :: rest) a w :=
  st_ibin hf hd .eql (fun k p q => .bool (p == q)) (fun w => by simp [binOp, Op.intCmp, Sem.run, pure]) hw hx hy h
theorem st_ineq (hw : Region.wanted ⟨some d, .binOp .neq t x y t', ty, pos, af, g⟩ (yielded ops a.tmps) = true)
    (hx : evL L x = some (.int k p)) (hy : evL L y = some (.int k q))
    (h : ∀ a', a' = a.put (some d) (.bool (p != q)) → Fr n a' ((d, .bool (p != q)) :: L) → wpList P ops Q rest a' w) :
    wpList P ops Q (⟨some d, .binOp .neq t x y t', ty, pos, af, g⟩ :: rest) a w :=
  st_ibin hf hd .neq (fun k p q => .bool (p != q)) (fun w => by simp [binOp, Op.intCmp, Sem.run, pure]) hw hx hy h

theorem st_ishl (hw : Region.wanted ⟨some d, .binOp .shl t x y t', ty, pos, af, g⟩ (yielded ops a.tmps) = true)
    (hx : evL L x = some (.int k p)) (hy : evL L y = some (.int k' q)) (h0 : 0 ≤ q)
    (h : ∀ a', a' = a.put (some d) (.int k (ishl k p q)) → Fr n a' ((d, .int k (ishl k p q)) :: L) → wpList P ops Q rest a' w) :
    wpList P ops Q (⟨some d, .binOp .shl t x y t', ty, pos, af, g⟩ :: rest) a w :=
  st_run hf hw rfl hd (execBin .shl _ _ (.inl rfl) (hf.ev hx) (hf.ev hy) (by simp [binOp, Op.shift, show ¬ q < 0 by omega, ishl, Sem.run, pure])) h
theorem st_ishr (hw : Region.wanted ⟨some d, .binOp .shr t x y t', ty, pos, af, g⟩ (yielded ops a.tmps) = true)
    (hx : evL L x = some (.int k p)) (hy : evL L y = some (.int k' q)) (h0 : 0 ≤ q)
    (h : ∀ a', a' = a.put (some d) (.int k (ishr k p q)) → Fr n a' ((d, .int k (ishr k p q)) :: L) → wpList P ops Q rest a' w) :
    wpList P ops Q (⟨some d, .binOp .shr t x y t', ty, pos, af, g⟩ :: rest) a w :=
  st_run hf hw rfl hd (execBin .shr _ _ (.inl rfl) (hf.ev hx) (hf.ev hy) (by simp [binOp, Op.shift, show ¬ q < 0 by omega, ishr, Sem.run, pure])) h

theorem st_ineg (hw : Region.wanted ⟨some d, .unOp .neg t x, ty, pos, af, g⟩ (yielded ops a.tmps) = true)
    (hx : evL L x = some (.int k p))
    (h : ∀ a', a' = a.put (some d) (.int k (k.wrap (0 - p))) → Fr n a' ((d, .int k (k.wrap (0 - p))) :: L) → wpList P ops Q rest a' w) :
    wpList P ops Q (⟨some d, .unOp .neg t x, ty, pos, af, g⟩ :: rest) a w :=
  st_run hf hw rfl hd (by simp [execOp, hf.ev hx, Op.unary, Op.intArith, Sem.run, pure, bind, Sem.bind]) h

theorem st_not {b : Bool} (hw : Region.wanted ⟨some d, .unOp .not t x, ty, pos, af, g⟩ (yielded ops a.tmps) = true)
    (hx : evL L x = some (.bool b))
    (h : ∀ a', a' = a.put (some d) (.bool (!b)) → Fr n a' ((d, .bool (!b)) :: L) → wpList P ops Q rest a' w) :
    wpList P ops Q (⟨some d, .unOp .not t x, ty, pos, af, g⟩ :: rest) a w :=
  st_run hf hw rfl hd (by simp [execOp, hf.ev hx, Op.unary, Sem.run, pure, bind, Sem.bind]) h

theorem st_conv_ii (hs : (P.underlying t).isSome = true) (hdt : P.underlying t' = some (.int k'))
    (hw : Region.wanted ⟨some d, .convert t t' x, ty, pos, af, g⟩ (yielded ops a.tmps) = true)
    (hx : evL L x = some (.int k p))
    (h : ∀ a', a' = a.put (some d) (.int k' (k'.wrap p)) → Fr n a' ((d, .int k' (k'.wrap p)) :: L) → wpList P ops Q rest a' w) :
    wpList P ops Q (⟨some d, .convert t t' x, ty, pos, af, g⟩ :: rest) a w := by
  obtain ⟨u, hu⟩ := Option.isSome_iff_exists.1 hs
  have hc : (convert t t' (.int k p)).run P w = .ok (.int k' (k'.wrap p)) w := by
    cases u <;> simp [convert, run_underlying hu, run_underlying hdt, Conv.intToInt]
  refine st_run hf hw rfl hd (v := .int k' (k'.wrap p)) (w' := w) ?_ h
  simp only [execOp, hf.ev hx, Sem.run_bind, hc, Result.andThen]
  rfl

theorem st_bneq {b c : Bool} (ht : P.underlying t = some .bool) (hw : Region.wanted ⟨some d, .binOp .neq t x y t', ty, pos, af, g⟩ (yielded ops a.tmps) = true)
    (hx : evL L x = some (.bool b)) (hy : evL L y = some (.bool c))
    (h : ∀ a', a' = a.put (some d) (.bool (b != c)) → Fr n a' ((d, .bool (b != c)) :: L) → wpList P ops Q rest a' w) :
    wpList P ops Q (⟨some d, .binOp .neq t x y t', ty, pos, af, g⟩ :: rest) a w :=
  st_run hf hw rfl hd (execBin .neq _ _ (.inr trivial) (hf.ev hx) (hf.ev hy) (by simp [binOp, Sem.run_bind, run_equal_bool w t b c ht, Result.andThen, Sem.run, pure, bne])) h

theorem st_sidx {s : ByteArray} (ht : P.underlying t = some .string)
    (hw : Region.wanted ⟨some d, .index t x y, ty, pos, af, g⟩ (yielded ops a.tmps) = true)
    (hx : evL L x = some (.string s)) (hy : evL L y = some (.int k p)) (h0 : 0 ≤ p) (h1 : p < (s.size : Int))
    (h : ∀ a', a' = a.put (some d) (.int .u8 (bt s p)) → Fr n a' ((d, .int .u8 (bt s p)) :: L) → wpList P ops Q rest a' w) :
    wpList P ops Q (⟨some d, .index t x y, ty, pos, af, g⟩ :: rest) a w := by
  have hlt : p.toNat < s.size := by omega
  have hb : s[p.toNat]? = some (s[p.toNat]'hlt) := by simp [hlt]
  have he : ((s[p.toNat]'hlt).toNat : Int) = bt s p := by
    unfold bt
    rw [List.getD_eq_getElem?_getD, List.getElem?_eq_getElem (by simpa using hlt)]
    rfl
  refine st_run hf hw rfl hd (v := .int .u8 (bt s p)) (w' := w) ?_ h
  simp [execOp, hf.ev hx, hf.ev hy, Instr.index, asIntOf, run_underlying ht, h0, hb, Result.andThen, he]

theorem st_imin (hw : Region.wanted ⟨some d, .call ⟨.builtin .min, #[x, y], #[t, t']⟩, ty, pos, af, g⟩ (yielded ops a.tmps) = true)
    (hx : evL L x = some (.int k p)) (hy : evL L y = some (.int k q))
    (h : ∀ a', a' = a.put (some d) (.int k (imin p q)) → Fr n a' ((d, .int k (imin p q)) :: L) → wpList P ops Q rest a' w) :
    wpList P ops Q (⟨some d, .call ⟨.builtin .min, #[x, y], #[t, t']⟩, ty, pos, af, g⟩ :: rest) a w :=
  st_run hf hw rfl hd (by simp [execOp, resolve, invoke, builtin, hf.ev hx, hf.ev hy, Builtin.min_, Builtin.min2, imin, Result.andThen, Sem.run, pure, bind, Sem.bind, List.foldlM]) h
theorem st_imax (hw : Region.wanted ⟨some d, .call ⟨.builtin .max, #[x, y], #[t, t']⟩, ty, pos, af, g⟩ (yielded ops a.tmps) = true)
    (hx : evL L x = some (.int k p)) (hy : evL L y = some (.int k q))
    (h : ∀ a', a' = a.put (some d) (.int k (imax p q)) → Fr n a' ((d, .int k (imax p q)) :: L) → wpList P ops Q rest a' w) :
    wpList P ops Q (⟨some d, .call ⟨.builtin .max, #[x, y], #[t, t']⟩, ty, pos, af, g⟩ :: rest) a w :=
  st_run hf hw rfl hd (by simp [execOp, resolve, invoke, builtin, hf.ev hx, hf.ev hy, Builtin.max_, Builtin.max2, imax, Result.andThen, Sem.run, pure, bind, Sem.bind, List.foldlM]) h

theorem st_extract {vs : Array Value} {i : Nat} {v : Value} (hw : Region.wanted ⟨some d, .extract x i, ty, pos, af, g⟩ (yielded ops a.tmps) = true)
    (hx : evL L x = some (.tuple vs)) (hi : vs[i]? = some v)
    (h : ∀ a', a' = a.put (some d) (v) → Fr n a' ((d, v) :: L) → wpList P ops Q rest a' w) :
    wpList P ops Q (⟨some d, .extract x i, ty, pos, af, g⟩ :: rest) a w :=
  st_run hf hw rfl hd (by simp [execOp, hf.ev hx, Instr.extract, hi, Sem.run, pure, bind, Sem.bind]) h

theorem st_makeFunc1 {fn : Fn} {v : Value} (hw : Region.wanted ⟨some d, .makeFunc fn #[] #[x], ty, pos, af, g⟩ (yielded ops a.tmps) = true)
    (hx : evL L x = some v)
    (h : ∀ a', a' = a.put (some d) (.func fn #[] #[v]) → Fr n a' ((d, .func fn #[] #[v]) :: L) → wpList P ops Q rest a' w) :
    wpList P ops Q (⟨some d, .makeFunc fn #[] #[x], ty, pos, af, g⟩ :: rest) a w :=
  st_run hf hw rfl hd (by simp [execOp, hf.ev hx, Instr.makeFunc, Sem.run, pure, bind, Sem.bind]) h
theorem st_makeFunc2 {fn : Fn} {v u : Value} (hw : Region.wanted ⟨some d, .makeFunc fn #[] #[x, y], ty, pos, af, g⟩ (yielded ops a.tmps) = true)
    (hx : evL L x = some v) (hy : evL L y = some u)
    (h : ∀ a', a' = a.put (some d) (.func fn #[] #[v, u]) → Fr n a' ((d, .func fn #[] #[v, u]) :: L) → wpList P ops Q rest a' w) :
    wpList P ops Q (⟨some d, .makeFunc fn #[] #[x, y], ty, pos, af, g⟩ :: rest) a w :=
  st_run hf hw rfl hd (by simp [execOp, hf.ev hx, hf.ev hy, Instr.makeFunc, Sem.run, pure, bind, Sem.bind]) h
end ints
end GL
