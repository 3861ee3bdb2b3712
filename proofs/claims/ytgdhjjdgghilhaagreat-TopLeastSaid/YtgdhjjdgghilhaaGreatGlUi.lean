/- Longer steps: what the generated proofs do again and again, in one. Own work. -/
import Derived.Test.YtgdhjjdgghilhaaGreatGlUh
set_option linter.unusedVariables false
namespace GL
open Go
def ib (o : BinOp) (k : IntKind) (p q : Int) : Option Value := match o with
  | .add => some (.int k (k.wrap (p + q)))
  | .sub => some (.int k (k.wrap (p - q)))
  | .mul => some (.int k (k.wrap (p * q)))
  | .and => some (.int k (iand k p q))
  | .or => some (.int k (ior k p q))
  | .xor => some (.int k (ixor k p q))
  | .lss => some (.bool (decide (p < q)))
  | .leq => some (.bool (decide (p ≤ q)))
  | .gtr => some (.bool (decide (q < p)))
  | .geq => some (.bool (decide (q ≤ p)))
  | .eql => some (.bool (p == q))
  | .neq => some (.bool (p != q))
  | _ => none
def pv (L : List (Nat × Value)) : Op → Option Value
  | .move x => evL L x
  | .assign x => evL L x
  | .extract x i => match evL L x with
    | some (.tuple vs) => vs[i]?
    | _ => none
  | .binOp o _ x y _ => match evL L x, evL L y with
    | some (.int k p), some (.int k' q) => if k = k' then ib o k p q else none
    | _, _ => none
  | .unOp .not _ x => match evL L x with
    | some (.bool b) => some (.bool (!b))
    | _ => none
  | .unOp .neg _ x => match evL L x with
    | some (.int k p) => some (.int k (k.wrap (0 - p)))
    | _ => none
  | .call ⟨.builtin b, xs, _⟩ => match b, xs.toList with
    | .real, [x] => match evL L x with
      | some (.complex .f64 p _) => some (.float .f64 p)
      | _ => none
    | .imag, [x] => match evL L x with
      | some (.complex .f64 _ q) => some (.float .f64 q)
      | _ => none
    | .complex, [x, y] => match evL L x, evL L y with
      | some (.float .f64 p), some (.float .f64 q) => some (.complex .f64 p q)
      | _, _ => none
    | _, _ => none
  | _ => none
inductive WR where
  | no
  | at (L : List (Nat × Value)) (os : List Oper)
def walk (n : Nat) (L : List (Nat × Value)) : List Oper → WR
  | [] => .at L []
  | ⟨some d, o, ty, pos, af, none⟩ :: os => match pv L o, Nat.ble (d + 1) n with
    | some v, true => walk n ((d, v) :: L) os
    | _, _ => .at L (⟨some d, o, ty, pos, af, none⟩ :: os)
  | o :: os => .at L (o :: os)
def walk1 (n : Nat) (L : List (Nat × Value)) : List Oper → WR
  | ⟨some d, o, _, _, _, none⟩ :: os => match pv L o, Nat.ble (d + 1) n with
    | some v, true => walk n ((d, v) :: L) os
    | _, _ => .no
  | _ => .no
section
variable {P : Program} {n : Nat} {a : Act} {L L' : List (Nat × Value)} {ops : Array Oper} {Q : Exit → Act → World → Prop}
  {rest os os' : List Oper} {w : World} {d : Nat} {ty : TypeId} {pos : String} {af : Array Edge} {g : Option (Nat × Bool)} {x y z : Operand} {o : Op} {v : Value}
theorem pv_okE (hf : Fr n a L) (hw : Region.wanted ⟨some d, o, ty, pos, af, g⟩ (yielded ops a.tmps) = true) (hv : pv L o = some v) (hd : d < n)
    (h' : ∀ a', a' = a.put (some d) v → Fr n a' ((d, v) :: L) → wpList P ops Q rest a' w) : wpList P ops Q (⟨some d, o, ty, pos, af, g⟩ :: rest) a w := by
  unfold pv at hv
  split at hv
  · exact st_move hf hw hv hd h'
  · exact st_assign hf hw hv hd h'
  · split at hv
    · exact st_extract hf hd hw ‹_› hv h'
    · cases hv
  · split at hv
    · split at hv
      · rename_i k p k' q hx hy hk
        subst hk
        unfold ib at hv
        split at hv
        all_goals first | cases hv | skip
        · exact st_iadd hf hd hw hx hy h'
        · exact st_isub hf hd hw hx hy h'
        · exact st_imul hf hd hw hx hy h'
        · exact st_iand hf hd hw hx hy h'
        · exact st_ior hf hd hw hx hy h'
        · exact st_ixor hf hd hw hx hy h'
        · exact st_ilss hf hd hw hx hy h'
        · exact st_ileq hf hd hw hx hy h'
        · exact st_igtr hf hd hw hx hy h'
        · exact st_igeq hf hd hw hx hy h'
        · exact st_ieql hf hd hw hx hy h'
        · exact st_ineq hf hd hw hx hy h'
      · cases hv
    · cases hv
  · split at hv
    · cases hv; exact st_not hf hd hw ‹_› h'
    · cases hv
  · split at hv
    · cases hv; exact st_ineg hf hd hw ‹_› h'
    · cases hv
  · rename_i b xs ts
    obtain ⟨xs⟩ := xs
    split at hv
    · rename_i x e
      obtain rfl : xs = [x] := e
      split at hv
      · cases hv; exact st_real hf hd hw ‹_› h'
      · cases hv
    · rename_i x e
      obtain rfl : xs = [x] := e
      split at hv
      · cases hv; exact st_imag hf hd hw ‹_› h'
      · cases hv
    · rename_i x y e
      obtain rfl : xs = [x, y] := e
      split at hv
      · cases hv; exact st_complex hf hd hw ‹_› ‹_› h'
      · cases hv
    · cases hv
  · cases hv
theorem pv_ok (hf : Fr n a L) (hw : Region.wanted ⟨some d, o, ty, pos, af, g⟩ (yielded ops a.tmps) = true) (hv : pv L o = some v) (hd : d < n)
    (h : ∀ a', Fr n a' ((d, v) :: L) → wpList P ops Q rest a' w) : wpList P ops Q (⟨some d, o, ty, pos, af, g⟩ :: rest) a w :=
  pv_okE hf hw hv hd fun a' _ => h a'
theorem walk_ok (hf : Fr n a L) (e : walk n L os = .at L' os') (h : ∀ a', Fr n a' L' → wpList P ops Q os' a' w) : wpList P ops Q os a w := by
  induction os generalizing a L with
  | nil => cases e; exact h a hf
  | cons q os ih =>
    obtain ⟨dst, o, ty, pos, af, g⟩ := q
    unfold walk at e
    split at e
    · rename_i e'; cases e'
    · rename_i e'
      cases e'
      split at e
      · rename_i hv hb
        exact pv_ok hf rfl hv (Nat.le_of_ble_eq_true hb) fun a' hf' => ih hf' e
      · cases e; exact h a hf
    · rename_i e'; cases e'; cases e; exact h a hf
theorem pus (hf : Fr n a L) (e : walk1 n L os = .at L' os') (h : ∀ a', Fr n a' L' → wpList P ops Q os' a' w) : wpList P ops Q os a w := by
  unfold walk1 at e
  split at e
  · split at e
    · rename_i hv hb
      exact pv_ok hf rfl hv (Nat.le_of_ble_eq_true hb) fun a' hf' => walk_ok hf' e h
    · cases e
  · cases e
theorem pu1 (hf : Fr n a L) (hv : pv L o = some v) (hd : Nat.ble (d + 1) n = true) (h : ∀ a', Fr n a' ((d, v) :: L) → wpList P ops Q rest a' w) : wpList P ops Q (⟨some d, o, ty, pos, af, none⟩ :: rest) a w :=
  pv_ok hf rfl hv (Nat.le_of_ble_eq_true hd) h
theorem pusY {j t : Nat} {b want : Bool} (hf : Fr n a L) (hj : ((ops[j]?).bind (·.dst)) = some t) (hl : lk L t = some (.bool b)) (hv : pv L o = some v) (hd : Nat.ble (d + 1) n = true) (hb : b = want)
    (h : ∀ a', Fr n a' ((d, v) :: L) → wpList P ops Q rest a' w) : wpList P ops Q (⟨some d, o, ty, pos, af, some (j, want)⟩ :: rest) a w :=
  pv_ok hf (wantY hf hj hl hb) hv (Nat.le_of_ble_eq_true hd) h
theorem skN {j t : Nat} {b want : Bool} (hf : Fr n a L) (hj : ((ops[j]?).bind (·.dst)) = some t) (hl : lk L t = some (.bool b)) (hd : Nat.ble (d + 1) n = true) (hn : lk L d = none) (hb : b = !want)
    (h : ∀ a', Fr n a' L → wpList P ops Q rest a' w) : wpList P ops Q (⟨some d, o, ty, pos, af, some (j, want)⟩ :: rest) a w :=
  st_skip hf (wantN hf hj hl hb) rfl (Nat.le_of_ble_eq_true hd) h hn
theorem pickT {b : Bool} (hf : Fr n a L) (hw : Region.wanted ⟨some d, .pick z x y, ty, pos, af, g⟩ (yielded ops a.tmps) = true) (hz : evL L z = some (.bool b)) (hx : evL L x = some v) (hd : d < n) (hb : b = true)
    (h : ∀ a', Fr n a' ((d, v) :: L) → wpList P ops Q rest a' w) : wpList P ops Q (⟨some d, .pick z x y, ty, pos, af, g⟩ :: rest) a w :=
  st_pick hf hw hz (fun _ => hx) (fun e => by rw [hb] at e; cases e) hd fun a' _ => h a'
theorem pickF {b : Bool} (hf : Fr n a L) (hw : Region.wanted ⟨some d, .pick z x y, ty, pos, af, g⟩ (yielded ops a.tmps) = true) (hz : evL L z = some (.bool b)) (hx : evL L y = some v) (hd : d < n) (hb : b = false)
    (h : ∀ a', Fr n a' ((d, v) :: L) → wpList P ops Q rest a' w) : wpList P ops Q (⟨some d, .pick z x y, ty, pos, af, g⟩ :: rest) a w :=
  st_pick hf hw hz (fun e => by rw [hb] at e; cases e) (fun _ => hx) hd fun a' _ => h a'
end
structure Bx (H : Prop) : Prop where
  out : H
theorem go {G H : Prop} (q : H) (h : Bx H → G := by
    intro k
    repeat (first
      | ((with_reducible apply pus)
         · assumption
         · exact rfl
         intro a hf)
      | ((with_reducible apply st_nil)
         · assumption)
      | with_reducible refine th_n ?_
      | ((with_reducible show Code.wp _ _ _ _ _)
         first | refine wp_seq ?_ | refine wp_reg ?_ | refine wp_ret ?_ | refine wp_block ?_)
      | ((with_reducible show wpList _ _ _ _ _ _)
         apply pu1
         · assumption
         · exact rfl
         · exact rfl
         intro a hf)
      | ((with_reducible show wpList _ _ _ _ _ _)
         apply skN
         · assumption
         · exact rfl
         · exact rfl
         · exact rfl
         · exact rfl
         · assumption
         intro a hf)
      | ((with_reducible show wpList _ _ _ _ _ _)
         apply pusY
         · assumption
         · exact rfl
         · exact rfl
         · exact rfl
         · exact rfl
         · assumption
         intro a hf)
      | with_reducible refine ib_n ?_
      | with_reducible refine th_r ?_
      | ((with_reducible show wpList _ _ _ _ _ _)
         apply pickT
         · assumption
         · first | exact rfl | exact wantY (by assumption) rfl rfl (by assumption)
         · exact rfl
         · exact rfl
         · decide
         · assumption
         intro a hf)
      | ((with_reducible show wpList _ _ _ _ _ _)
         apply pickF
         · assumption
         · first | exact rfl | exact wantY (by assumption) rfl rfl (by assumption)
         · exact rfl
         · exact rfl
         · decide
         · assumption
         intro a hf))
    revert a
    exact Bx.out k) : G := h ⟨q⟩
theorem goT {G H : Prop} (q : H) (h : Bx H → G := by
    intro k
    repeat (first
      | ((with_reducible apply st_nil)
         · assumption)
      | with_reducible refine th_n ?_
      | ((with_reducible show Code.wp _ _ _ _ _)
         first | refine wp_seq ?_ | refine wp_reg ?_ | refine wp_ret ?_ | refine wp_block ?_)
      | with_reducible refine ib_n ?_
      | with_reducible refine th_r ?_)
    exact Bx.out k) : G := h ⟨q⟩
theorem Fr.sb {n : Nat} {a : Act} {L L' : List (Nat × Value)} (hf : Fr n a L) (h : subL L L' := by repeat (first | exact trivial | refine And.intro rfl ?_)) : Fr n a L' := hf.sub h
def spl : Nat → List Res → Option (List Res × List Res)
  | 0, l => some ([], l)
  | k + 1, r :: l => match spl k l with
    | some (p, t) => some (r :: p, t)
    | none => none
  | _ + 1, [] => none
theorem spl_ok : ∀ {k : Nat} {rs pre tail : List Res}, spl k rs = some (pre, tail) → rs = pre ++ tail ∧ pre.length = k
  | 0, l, pre, tail, h => by cases h; exact ⟨rfl, rfl⟩
  | k + 1, r :: l, pre, tail, h => by
    unfold spl at h
    split at h
    · rename_i p t e
      cases h
      obtain ⟨h1, h2⟩ := spl_ok e
      exact ⟨by rw [h1]; rfl, by simp [h2]⟩
    · cases h
  | _ + 1, [], _, _, h => by cases h
def selR (pre : List Res) : List Nat → List Res
  | [] => []
  | i :: is => match pre[i]? with
    | some r => r :: selR pre is
    | none => selR pre is
theorem selR_ok {pre : List Res} : ∀ {is : List Nat}, (∀ i ∈ is, i < pre.length) → is.map (pre[·]?) = (selR pre is).map some
  | [], _ => rfl
  | i :: is, h => by
    have hi := h i (by simp)
    have := selR_ok (pre := pre) (is := is) (fun j hj => h j (by simp [hj]))
    unfold selR
    rw [List.getElem?_eq_getElem hi]
    simp only [List.map_cons, this]
    rw [List.getElem?_eq_getElem hi]
theorem Hp.pk {S : Nat → Prop} {w0 w : World} {rs pre tail : List Res} (hp : Hp S w0 w rs) (is : List Nat) (k : Nat) (h : spl k rs = some (pre, tail) := by exact rfl) (hn : is.Nodup := by decide) (hk : ∀ i ∈ is, i < k := by simp) :
    Hp S w0 w (selR pre is ++ tail) := by
  obtain ⟨h1, h2⟩ := spl_ok h
  rw [h1] at hp
  have hk' : ∀ i ∈ is, i < pre.length := fun i hi => by rw [h2]; exact hk i hi
  exact Hp.sel hp is hn hk' (selR_ok hk')
section
variable {P : Program} {ops : Array Oper} {md : Region.Mode} {C : World → Prop} {Nk : List Nat}
variable {n : Nat} {a : Act} {L : List (Nat × Value)} {w : World} {M : Act → World → Prop} {m : Nat} {listed : Array Bool}
variable {d j t : Nat} {ty : TypeId} {pos : String} {af : Array Edge} {o : Op} {v : Value} {b want : Bool}
theorem dv (i : Nat) (hf : Fr n a L) (hC : C w) (h : ∀ a', Fr n a' ((d, v) :: L) → anyP P md ops (Exit.then M noQ) C Nk m (listed.setIfInBounds i true) a' w)
    (hi : ops[i]? = some ⟨some d, o, ty, pos, af, none⟩ := by exact rfl) (hv : pv L o = some v := by exact rfl)
    (hk : (waitAll md ops Nk i && Region.noSelect ops && Region.free md ops listed i && (Region.ready md ops listed).contains i && freeOp o) = true := by kernel_rfl)
    (hd : d < n := by decide) : anyP P md ops (Exit.then M noQ) C Nk (m + 1) listed a w :=
  dr_takeK i v hi hf rfl (fun w _ => pv_okE hf rfl hv hd tk) hC h hk rfl hd
theorem dvY (i : Nat) (hf : Fr n a L) (hb : b = want) (hC : C w) (h : ∀ a', Fr n a' ((d, v) :: L) → anyP P md ops (Exit.then M noQ) C Nk m (listed.setIfInBounds i true) a' w)
    (hi : ops[i]? = some ⟨some d, o, ty, pos, af, some (j, want)⟩ := by exact rfl) (hj : ((ops[j]?).bind (·.dst)) = some t := by exact rfl) (hl : lk L t = some (.bool b) := by exact rfl) (hv : pv L o = some v := by exact rfl)
    (hk : (waitAll md ops Nk i && Region.noSelect ops && Region.free md ops listed i && (Region.ready md ops listed).contains i && freeOp o) = true := by kernel_rfl)
    (hd : d < n := by decide) : anyP P md ops (Exit.then M noQ) C Nk (m + 1) listed a w :=
  dr_takeK i v hi hf (wantY hf hj hl hb) (fun w _ => pv_okE hf (wantY hf hj hl hb) hv hd tk) hC h hk rfl hd
theorem enx {f : FuncId} {fn : Func} {c : Code} {args : List Value} {R : Ending → World → Prop} (hf : P.funcs[f]? = some fn)
    (h : ∀ a, Fr n a (frame0 0 args) → c.wp P (bodyPost P fn R) a w) (hb : fn.body = some c := by exact rfl) (hn : fn.ntmps = n := by exact rfl) (hl : args.length ≤ n := by exact Nat.le_of_ble_eq_true rfl) : Calls P f args.toArray w R :=
  enter hf hb hn hl h
end
theorem oj {α : Type} {a b : α} (h : some a = some b) : a = b := Option.some.inj h
end GL
