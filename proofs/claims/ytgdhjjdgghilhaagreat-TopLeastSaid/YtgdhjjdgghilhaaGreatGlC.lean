/- Own library, part C: memory: resources with footprints; flat element kinds; slices that are read, slices that are owned. -/
import Derived.Test.YtgdhjjdgghilhaaGreatGlB
import Derived.Laws.OwnMore
import Derived.OwnWalk
import Derived.Below
set_option linter.unusedVariables false
set_option linter.unusedSimpArgs false
namespace GL
open Go

inductive Fl where
  | bits (b : Nat)
  | nan
  deriving DecidableEq, Inhabited
def isNaN64 (b : Nat) : Bool := (FloatKind.f64.decode b).isNaN
def Fl.rep (b : Nat) : Fl → Prop
  | .bits c => b = c
  | .nan => isNaN64 b = true

structure Ek (α : Type) where
  n : Nat
  pos : 0 < n
  rep : List Value → α → Prop
  len : ∀ vs x, rep vs x → vs.length = n
  one : ∀ vs x, rep vs x → ∀ v ∈ vs, v.oneCell' = true

def Ek.int (k : IntKind) : Ek Int := ⟨1, by decide, fun vs x => vs = [.int k x], fun _ _ h => by subst h; rfl, fun _ _ h => by subst h; simp [Value.oneCell']⟩
def Ek.bool : Ek Bool := ⟨1, by decide, fun vs x => vs = [.bool x], fun _ _ h => by subst h; rfl, fun _ _ h => by subst h; simp [Value.oneCell']⟩
def Ek.f64 : Ek Fl := ⟨1, by decide, fun vs x => ∃ b, vs = [.float .f64 b] ∧ x.rep b, fun _ _ ⟨_, h, _⟩ => by subst h; rfl, fun _ _ ⟨_, h, _⟩ => by subst h; simp [Value.oneCell']⟩
def Ek.c128 : Ek (Fl × Fl) := ⟨1, by decide, fun vs x => ∃ b c, vs = [.complex .f64 b c] ∧ x.1.rep b ∧ x.2.rep c, fun _ _ ⟨_, _, h, _⟩ => by subst h; rfl, fun _ _ ⟨_, _, h, _⟩ => by subst h; simp [Value.oneCell']⟩
def Ek.pair {α β : Type} (A : Ek α) (B : Ek β) : Ek (α × β) :=
  ⟨A.n + B.n, by have := A.pos; omega, fun vs x => ∃ us ws, vs = us ++ ws ∧ A.rep us x.1 ∧ B.rep ws x.2,
    fun _ _ ⟨us, ws, h, h1, h2⟩ => by subst h; simp [A.len _ _ h1, B.len _ _ h2],
    fun _ _ ⟨us, ws, h, h1, h2⟩ v hv => by
      subst h
      rcases List.mem_append.1 hv with h | h
      · exact A.one _ _ h1 v h
      · exact B.one _ _ h2 v h⟩

variable {α β : Type}

def Ek.reps (E : Ek α) (cs : List Value) (xs : List α) : Prop :=
  cs.length = xs.length * E.n ∧ ∀ (i : Nat) (x : α), xs[i]? = some x → E.rep ((cs.drop (i * E.n)).take E.n) x

theorem reps_nil (E : Ek α) : E.reps [] [] := ⟨by simp, by simp⟩

theorem reps_append {E : Ek α} {cs ds : List Value} {xs ys : List α} (h : E.reps cs xs) (k : E.reps ds ys) : E.reps (cs ++ ds) (xs ++ ys) := by
  refine ⟨by simp [h.1, k.1, Nat.add_mul], fun i x hx => ?_⟩
  by_cases hi : i < xs.length
  · rw [List.getElem?_append_left hi] at hx
    have := h.2 i x hx
    have hb : i * E.n + E.n ≤ cs.length := by
      rw [h.1, ← Nat.succ_mul]; exact Nat.mul_le_mul_right _ hi
    rw [List.drop_append_of_le_length (by omega), List.take_append_of_le_length (by simp; omega)]
    exact this
  · rw [List.getElem?_append_right (by omega)] at hx
    have := k.2 _ x hx
    have e : i * E.n = cs.length + (i - xs.length) * E.n := by
      rw [h.1, ← Nat.add_mul]; congr 1; omega
    rw [e, List.drop_append]
    simp only [Nat.add_sub_cancel_left]
    rw [List.drop_eq_nil_of_le (by omega), List.nil_append]
    exact this

theorem reps_one {E : Ek α} {cs : List Value} {x : α} (h : E.rep cs x) : E.reps cs [x] := by
  refine ⟨by simp [E.len _ _ h], fun i y hy => ?_⟩
  cases i with
  | zero =>
    simp at hy; subst hy
    have e : (cs.drop (0 * E.n)).take E.n = cs := by
      rw [Nat.zero_mul, List.drop_zero]; exact List.take_of_length_le (by rw [E.len _ _ h]; exact Nat.le_refl _)
    rw [e]; exact h
  | succ i => simp at hy

theorem reps_cons {E : Ek α} {cs ds : List Value} {x : α} {xs : List α} (h : E.rep cs x) (k : E.reps ds xs) : E.reps (cs ++ ds) (x :: xs) :=
  reps_append (xs := [x]) (reps_one h) k

theorem reps_sub {E : Ek α} {cs : List Value} {xs : List α} (h : E.reps cs xs) (lo m : Nat) (hm : lo + m ≤ xs.length) :
    E.reps ((cs.drop (lo * E.n)).take (m * E.n)) ((xs.drop lo).take m) := by
  refine ⟨?_, fun i x hx => ?_⟩
  · simp only [List.length_take, List.length_drop, h.1, ← Nat.mul_sub_right_distrib]
    rw [← Nat.mul_min_mul_right]
  · have hi : i < m := by
      have := (List.getElem?_eq_some_iff.1 hx).1
      simp at this; omega
    rw [List.getElem?_take_of_lt hi, List.getElem?_drop] at hx
    have := h.2 _ x hx
    have hb : i * E.n + E.n ≤ m * E.n := by rw [← Nat.succ_mul]; exact Nat.mul_le_mul_right _ hi
    rw [List.drop_take, List.take_take, List.drop_drop, ← Nat.add_mul]
    rw [Nat.min_eq_left (by omega)]
    exact this

theorem reps_take {E : Ek α} {cs : List Value} {xs ys : List α} (h : E.reps cs (xs ++ ys)) : E.reps (cs.take (xs.length * E.n)) xs := by
  have := reps_sub h 0 xs.length (by simp)
  simpa using this

theorem reps_set {E : Ek α} {cs vs : List Value} {xs : List α} {x : α} (h : E.reps cs xs) (hv : E.rep vs x) (i : Nat) (hi : i < xs.length) :
    E.reps (cs.take (i * E.n) ++ vs ++ cs.drop (i * E.n + E.n)) (xs.set i x) := by
  have hn := E.len _ _ hv
  have hb : i * E.n + E.n ≤ cs.length := by rw [h.1, ← Nat.succ_mul]; exact Nat.mul_le_mul_right _ hi
  have e : xs.set i x = (xs.drop 0).take i ++ [x] ++ (xs.drop (i + 1)).take (xs.length - (i + 1)) := by
    rw [List.set_eq_take_append_cons_drop, if_pos hi]
    simp
    rw [List.take_of_length_le (by simp)]
  rw [e]
  refine reps_append (reps_append ?_ (reps_one hv)) ?_
  · have := reps_sub h 0 i (by omega)
    simpa using this
  · have := reps_sub h (i + 1) (xs.length - (i + 1)) (by omega)
    have e2 : (cs.drop ((i + 1) * E.n)).take ((xs.length - (i + 1)) * E.n) = cs.drop (i * E.n + E.n) := by
      rw [Nat.succ_mul]
      apply List.take_of_length_le
      simp [h.1, Nat.sub_mul, Nat.succ_mul]
    rw [e2] at this
    exact this

theorem reps_replicate {E : Ek α} {vs : List Value} {x : α} (h : E.rep vs x) : ∀ m, E.reps ((List.replicate m vs).flatten) (List.replicate m x)
  | 0 => reps_nil E
  | m + 1 => by rw [List.replicate_succ, List.replicate_succ, List.flatten_cons]; exact reps_cons h (reps_replicate h m)

structure Res where
  own : (Nat → Prop) → World → Prop
  loc : ∀ fp w w', own fp w → (∀ k, fp k → w'.heap[k]? = w.heap[k]?) → own fp w'
  bd : ∀ fp w k, own fp w → fp k → k < w.heap.size

structure Chg (M : Nat → Prop) (w w' : World) : Prop where
  os : w'.os = w.os
  tape : w'.tape = w.tape
  output : w'.output = w.output
  size : w.heap.size ≤ w'.heap.size
  block : ∀ k, k < w.heap.size → ¬ M k → w'.heap[k]? = w.heap[k]?

abbrev Same := Chg (fun _ => False)
theorem Chg.refl (M : Nat → Prop) (w : World) : Chg M w w := ⟨rfl, rfl, rfl, Nat.le_refl _, fun _ _ _ => rfl⟩
theorem Same.at {w w' : World} (h : Same w w') {k : Nat} (hk : k < w.heap.size) : w'.heap[k]? = w.heap[k]? := h.block k hk (fun h => h)
theorem Same.trans {w w1 w2 : World} (h : Same w w1) (k : Same w1 w2) : Same w w2 :=
  ⟨k.os.trans h.os, k.tape.trans h.tape, k.output.trans h.output, Nat.le_trans h.size k.size,
    fun i hi _ => (k.at (Nat.lt_of_lt_of_le hi h.size)).trans (h.at hi)⟩
theorem Same.drew (w : World) : Same w { w with drawn := w.drawn + 1 } := ⟨rfl, rfl, rfl, Nat.le_refl _, fun _ _ _ => rfl⟩
theorem Same.alloc (w : World) (o : Obj) : Same w (w.alloc o) :=
  ⟨rfl, rfl, rfl, by simp, fun k hk _ => heap_alloc_old w o k hk⟩

structure Hp (S : Nat → Prop) (w0 w : World) (rs : List Res) : Prop where
  os : w.os = w0.os
  tape : w.tape = w0.tape
  output : w.output = w0.output
  size : w0.heap.size ≤ w.heap.size
  old : ∀ k, S k → k < w0.heap.size ∧ w.heap[k]? = w0.heap[k]?
  res : ∃ f : Nat → Nat → Prop, (∀ (i : Nat) (r : Res), rs[i]? = some r → r.own (f i) w) ∧ (∀ i k, i < rs.length → f i k → ¬ S k) ∧
    (∀ i j k, i < rs.length → j < rs.length → i ≠ j → f i k → ¬ f j k)

variable {S : Nat → Prop} {w0 w w' : World} {rs : List Res}

theorem Hp.start (w : World) (h : ∀ k, S k → k < w.heap.size) : Hp S w w [] :=
  ⟨rfl, rfl, rfl, Nat.le_refl _, fun k hk => ⟨h k hk, rfl⟩, fun _ _ => False, by simp, by simp, by simp⟩

theorem Hp.lt (hp : Hp S w0 w rs) {k : Nat} (h : S k) : k < w.heap.size := Nat.lt_of_lt_of_le (hp.old k h).1 hp.size

theorem Hp.same (hp : Hp S w0 w rs) (h : Same w w') : Hp S w0 w' rs := by
  obtain ⟨f, h1, h2, h3⟩ := hp.res
  refine ⟨h.os.trans hp.os, h.tape.trans hp.tape, h.output.trans hp.output, Nat.le_trans hp.size h.size, fun k hk => ⟨(hp.old k hk).1, (h.at (hp.lt hk)).trans (hp.old k hk).2⟩, f, ?_, h2, h3⟩
  intro i r hr
  have ho := h1 i r hr
  exact r.loc _ _ _ ho fun k hk => h.at (r.bd _ _ _ ho hk)

theorem Hp.push (hp : Hp S w0 w rs) (h : Same w w') {r : Res} {fp : Nat → Prop} (ho : r.own fp w') (hn : ∀ k, fp k → w.heap.size ≤ k) : Hp S w0 w' (r :: rs) := by
  have hp' := hp.same h
  obtain ⟨f, h1, h2, h3⟩ := hp.res
  refine ⟨hp'.os, hp'.tape, hp'.output, hp'.size, hp'.old, fun i => match i with | 0 => fp | i + 1 => f i, ?_, ?_, ?_⟩
  · intro i r' hr
    cases i with
    | zero => simp at hr; subst hr; exact ho
    | succ i =>
      have ho := h1 i r' (by simpa using hr)
      exact r'.loc _ _ _ ho fun k hk => h.at (r'.bd _ _ _ ho hk)
  · intro i k hi hk
    cases i with
    | zero => intro hs; have := hp.lt hs; have := hn k hk; omega
    | succ i => exact h2 i k (by simpa using hi) hk
  · have old : ∀ j k, j < rs.length → f j k → k < w.heap.size := fun j k hj hk => by
      obtain ⟨r', hr'⟩ : ∃ r', rs[j]? = some r' := ⟨_, List.getElem?_eq_getElem hj⟩
      exact r'.bd _ _ _ (h1 j r' hr') hk
    intro i j k hi hj hne hk hk'
    cases i with
    | zero =>
      cases j with
      | zero => exact hne rfl
      | succ j => have := old j k (by simpa using hj) hk'; have := hn k hk; omega
    | succ i =>
      cases j with
      | zero => have := old i k (by simpa using hi) hk; have := hn k hk'; omega
      | succ j => exact h3 i j k (by simpa using hi) (by simpa using hj) (by omega) hk hk'

theorem Hp.push0 (hp : Hp S w0 w rs) {r : Res} (ho : r.own (fun _ => False) w) : Hp S w0 w (r :: rs) :=
  hp.push (Chg.refl _ w) ho (fun _ h => h.elim)

theorem Hp.take (hp : Hp S w0 w rs) {i : Nat} {r : Res} (hi : rs[i]? = some r) :
    ∃ fp, r.own fp w ∧ (∀ k, fp k → ¬ S k) ∧ ∀ (w' : World) (r' : Res) (fp' : Nat → Prop), Chg fp w w' → r'.own fp' w' → (∀ k, fp' k → fp k ∨ w.heap.size ≤ k) → Hp S w0 w' (rs.set i r') := by
  obtain ⟨f, h1, h2, h3⟩ := hp.res
  have hil : i < rs.length := (List.getElem?_eq_some_iff.1 hi).1
  have old : ∀ j k, j < rs.length → f j k → k < w.heap.size := fun j k hj hk => by
    obtain ⟨r', hr'⟩ : ∃ r', rs[j]? = some r' := ⟨_, List.getElem?_eq_getElem hj⟩
    exact r'.bd _ _ _ (h1 j r' hr') hk
  refine ⟨f i, h1 i r hi, fun k hk => h2 i k hil hk, fun w' r' fp' hc ho hn => ?_⟩
  refine ⟨hc.os.trans hp.os, hc.tape.trans hp.tape, hc.output.trans hp.output, Nat.le_trans hp.size hc.size,
    fun k hk => ⟨(hp.old k hk).1, (hc.block k (hp.lt hk) (fun h => h2 i k hil h hk)).trans (hp.old k hk).2⟩,
    fun j => if j = i then fp' else f j, ?_, ?_, ?_⟩
  · intro j r'' hj
    by_cases hji : j = i
    · subst hji
      rw [List.getElem?_set_self (by simpa using hil)] at hj
      obtain rfl := Option.some.inj hj
      simpa using ho
    · rw [List.getElem?_set_ne (by omega)] at hj
      have ho' := h1 j r'' hj
      simp only [hji, if_false]
      have hjl : j < rs.length := (List.getElem?_eq_some_iff.1 hj).1
      exact r''.loc _ _ _ ho' fun k hk => hc.block k (r''.bd _ _ _ ho' hk) (h3 j i k hjl hil hji hk)
  · intro j k hj hk hs
    simp only [List.length_set] at hj
    by_cases hji : j = i
    · simp only [hji, if_true] at hk
      rcases hn k hk with h | h
      · exact h2 i k hil h hs
      · have := hp.lt hs; omega
    · simp only [hji, if_false] at hk
      exact h2 j k hj hk hs
  · intro j l k hj hl hne hk hk'
    simp only [List.length_set] at hj hl
    by_cases hji : j = i
    · simp only [hji, if_true] at hk
      have hli : l ≠ i := fun e => hne (hji.trans e.symm)
      simp only [hli, if_false] at hk'
      rcases hn k hk with h | h
      · exact h3 i l k hil hl (by omega) h hk'
      · have := old l k hl hk'; omega
    · simp only [hji, if_false] at hk
      by_cases hli : l = i
      · simp only [hli, if_true] at hk'
        rcases hn k hk' with h | h
        · exact h3 j i k hj hil hji hk h
        · have := old j k hj hk; omega
      · simp only [hli, if_false] at hk'
        exact h3 j l k hj hl hne hk hk'

theorem Hp.sel {pre tail : List Res} (hp : Hp S w0 w (pre ++ tail)) (is : List Nat) (hnd : is.Nodup) (hlt : ∀ i ∈ is, i < pre.length) {rs' : List Res}
    (hrs : is.map (pre[·]?) = rs'.map some) : Hp S w0 w (rs' ++ tail) := by
  obtain ⟨f, h1, h2, h3⟩ := hp.res
  have hlen : is.length = rs'.length := by have := congrArg List.length hrs; simpa using this
  let g : Nat → Nat := fun j => if h : j < is.length then is[j] else pre.length + (j - is.length)
  have hg : ∀ j, j < (rs' ++ tail).length → g j < (pre ++ tail).length ∧ (rs' ++ tail)[j]? = (pre ++ tail)[g j]? := by
    intro j hj
    simp only [g]
    split
    · rename_i hji
      have hm := hlt _ (List.getElem_mem hji)
      refine ⟨by simp; omega, ?_⟩
      rw [List.getElem?_append_left (by omega), List.getElem?_append_left hm]
      have := congrArg (·[j]?) hrs
      simp only [List.getElem?_map] at this
      rw [List.getElem?_eq_getElem hji, List.getElem?_eq_getElem (show j < rs'.length by omega)] at this
      simp only [Option.map_some, Option.some.injEq] at this
      rw [this, List.getElem?_eq_getElem]
    · rename_i hji
      simp only [List.length_append] at hj ⊢
      refine ⟨by omega, ?_⟩
      rw [List.getElem?_append_right (by omega), List.getElem?_append_right (by omega)]
      congr 1; omega
  have hinj : ∀ i j, i < (rs' ++ tail).length → j < (rs' ++ tail).length → i ≠ j → g i ≠ g j := by
    intro i j hi hj hne he
    simp only [g] at he
    split at he <;> split at he
    · rename_i h1 h2
      exact hne ((List.getElem_inj hnd).1 he)
    · rename_i h1 h2
      have := hlt _ (List.getElem_mem h1); omega
    · rename_i h1 h2
      have := hlt _ (List.getElem_mem h2); omega
    · omega
  refine ⟨hp.os, hp.tape, hp.output, hp.size, hp.old, fun j => f (g j), ?_, ?_, ?_⟩
  · intro i r hr
    have hi := (List.getElem?_eq_some_iff.1 hr).1
    exact h1 _ r ((hg i hi).2 ▸ hr)
  · intro i k hi hk
    exact h2 _ k (hg i hi).1 hk
  · intro i j k hi hj hne hk
    exact h3 _ _ k (hg i hi).1 (hg j hj).1 (hinj i j hi hj hne) hk

theorem Hp.drop {r : Res} (hp : Hp S w0 w (r :: rs)) : Hp S w0 w rs := by
  obtain ⟨f, h1, h2, h3⟩ := hp.res
  exact ⟨hp.os, hp.tape, hp.output, hp.size, hp.old, fun j => f (j + 1), fun i r hr => h1 _ r (by simpa using hr),
    fun i k hi hk => h2 _ k (by simpa using hi) hk, fun i j k hi hj hne hk => h3 _ _ k (by simpa using hi) (by simpa using hj) (by omega) hk⟩

theorem Hp.lend (hp : Hp S w0 w rs) {i : Nat} {r : Res} (hi : rs[i]? = some r) :
    ∃ S' : Nat → Prop, Hp S' w w (rs.eraseIdx i) ∧ (∃ fp, r.own fp w ∧ ∀ k, fp k → S' k) ∧ (∀ k, S k → S' k) ∧
      ∀ (w' : World) (l : List Res), Hp S' w w' l → Hp S w0 w' (r :: l) := by
  obtain ⟨f, h1, h2, h3⟩ := hp.res
  have hil : i < rs.length := (List.getElem?_eq_some_iff.1 hi).1
  have hb : ∀ j k, j < rs.length → f j k → k < w.heap.size := fun j k hj hk => by
    obtain ⟨r', hr'⟩ : ∃ r', rs[j]? = some r' := ⟨_, List.getElem?_eq_getElem hj⟩
    exact r'.bd _ _ _ (h1 j r' hr') hk
  refine ⟨fun k => S k ∨ f i k, ?_, ⟨f i, h1 i r hi, fun k hk => .inr hk⟩, fun k hk => .inl hk, ?_⟩
  · refine ⟨rfl, rfl, rfl, Nat.le_refl _, fun k hk => ⟨?_, rfl⟩, fun j => if j < i then f j else f (j + 1), ?_, ?_, ?_⟩
    · rcases hk with hk | hk
      · exact hp.lt hk
      · exact hb i k hil hk
    · intro j r' hr
      rw [List.getElem?_eraseIdx] at hr
      split at hr
      · rename_i hj; simp only [hj, if_true]; exact h1 j r' hr
      · rename_i hj; simp only [hj, if_false]; exact h1 _ r' hr
    · intro j k hj hk hs
      simp only [List.length_eraseIdx, hil, if_true] at hj
      split at hk
      · rename_i hji
        rcases hs with hs | hs
        · exact h2 j k (by omega) hk hs
        · exact h3 j i k (by omega) hil (by omega) hk hs
      · rename_i hji
        rcases hs with hs | hs
        · exact h2 (j + 1) k (by omega) hk hs
        · exact h3 (j + 1) i k (by omega) hil (by omega) hk hs
    · intro j l k hj hl hne hk
      simp only [List.length_eraseIdx, hil, if_true] at hj hl
      split at hk <;> (intro hk'; split at hk')
      · exact h3 j l k (by omega) (by omega) hne hk hk'
      · exact h3 j (l + 1) k (by omega) (by omega) (by omega) hk hk'
      · exact h3 (j + 1) l k (by omega) (by omega) (by omega) hk hk'
      · exact h3 (j + 1) (l + 1) k (by omega) (by omega) (by omega) hk hk'
  · intro w' l hl
    obtain ⟨g, k1, k2, k3⟩ := hl.res
    refine ⟨hl.os.trans hp.os, hl.tape.trans hp.tape, hl.output.trans hp.output, Nat.le_trans hp.size hl.size,
      fun k hk => ⟨(hp.old k hk).1, (hl.old k (.inl hk)).2.trans (hp.old k hk).2⟩, fun j => match j with | 0 => f i | j + 1 => g j, ?_, ?_, ?_⟩
    · intro j r' hr
      cases j with
      | zero =>
        simp at hr; subst hr
        exact r.loc _ _ _ (h1 i r hi) fun k hk => (hl.old k (.inr hk)).2
      | succ j => exact k1 j r' (by simpa using hr)
    · intro j k hj hk hs
      cases j with
      | zero => exact h2 i k hil hk hs
      | succ j => exact k2 j k (by simpa using hj) hk (.inl hs)
    · intro j m k hj hm hne hk hk'
      cases j with
      | zero =>
        cases m with
        | zero => exact hne rfl
        | succ m => exact k2 m k (by simpa using hm) hk' (.inr hk)
      | succ j =>
        cases m with
        | zero => exact k2 j k (by simpa using hj) hk (.inr hk')
        | succ m => exact k3 j m k (by simpa using hj) (by simpa using hm) (by omega) hk hk'
end GL
