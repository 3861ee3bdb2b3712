/- Own library, part J: from what a law is handed to what her walk is told. -/
import Derived.Test.YtgdhjjdgghilhaaGreatGlI
import Derived.Deep.Slices
import Derived.ChangeSame
import Derived.Laws.Cover2
import Derived.WalkKit
import Derived.ProofKit
import Derived.OpenShut
import Derived.Below
import Derived.SizedLaws
set_option linter.unusedVariables false
set_option linter.unusedSimpArgs false
namespace GL
open Go Go.Deep Go.ChangeShapes Go.WideShapes Go.RowKit

variable {α β : Type} {P : Program}

theorem Hp.below {w w' : World} {rs : List Res} (hp : Hp (fun k => k < w.heap.size) w w' rs) : Below w.heap.size w w' :=
  ⟨hp.os, hp.tape, hp.output, hp.size, fun k hk => (hp.old k hk).2⟩
theorem Hp.begin (w : World) : Hp (fun k => k < w.heap.size) w w [] := Hp.start w fun _ h => h

def OpenC (P : Program) (E : Ek α) (T : TypeId) (good : α → Prop) : Prop :=
  ∀ (H : Type) (enc : TypeId × Value → H) (w : World) (base : Nat) (spare : Nat → Bool) (held : Bool) (n : Nat) (cs : List Value) (y : DataW H × List MemPlace),
    DataW.trod enc P w base spare held n T cs = some y → ∃ x, E.rep cs x ∧ good x

def wf (k : IntKind) (x : Int) : Prop := (Lit.int k x).wf = true

theorem OpenC.int {T : TypeId} {k : IntKind} (h : P.underlying T = some (.int k)) : OpenC P (Ek.int k) T (wf k) := by
  intro H enc w base spare held n cs y hy
  obtain ⟨m, rfl, _, hw⟩ := DataW.trod_int h hy
  exact ⟨m, rfl, hw⟩
theorem OpenC.bool {T : TypeId} (h : P.underlying T = some .bool) : OpenC P Ek.bool T (fun _ => True) := by
  intro H enc w base spare held n cs y hy
  obtain ⟨m, rfl, _⟩ := DataW.trod_bool h hy
  exact ⟨m, rfl, trivial⟩
theorem OpenC.f64 {T : TypeId} (h : P.underlying T = some (.float .f64)) : OpenC P Ek.f64 T (fun x => ∃ b, x = .bits b ∧ (Lit.float .f64 b).wf = true) := by
  intro H enc w base spare held n cs y hy
  cases n with
  | zero => simp [DataW.trod] at hy
  | succ n =>
    match cs with
    | [] => simp [DataW.trod, h] at hy
    | [.float k b] =>
      simp only [DataW.trod, h] at hy
      split at hy
      · rename_i hw
        obtain ⟨rfl, hw⟩ := hw
        exact ⟨.bits b, ⟨b, rfl, rfl⟩, b, rfl, hw⟩
      · simp at hy
    | [c] =>
      cases c <;> simp [DataW.trod, h] at hy
      obtain ⟨⟨rfl, hw⟩, _⟩ := hy
      exact ⟨.bits _, ⟨_, rfl, rfl⟩, _, rfl, hw⟩
    | _ :: _ :: _ => simp [DataW.trod, h] at hy

theorem openS {E : Ek α} {t e : TypeId} {good : α → Prop} (ht : P.underlying t = some (.slice e)) (hc : P.cellsOf e = E.n) (ho : OpenC P E e good)
    {H : Type} {enc : TypeId × Value → H} {w : World} {base : Nat} {spare : Nat → Bool} {held : Bool} {v : Value} {d : DataW H} {ps : List MemPlace}
    (hv : ∃ a len cap, v = .slice a len cap) (h : DataW.Trod enc P w base spare held t v d ps) :
    ∃ xs : List α, RdS E (fun k => k < w.heap.size) w v xs ∧ (∀ x ∈ xs, good x) ∧ (0 < xs.length → ∃ el sp, d = .slice el sp ∧ el.length = xs.length) := by
  obtain ⟨a, len, cap, rfl⟩ := hv
  obtain ⟨fuel, hf⟩ := h
  rcases open_slice ht hf with ⟨hcs, _⟩ | ⟨x, l, c, m, n, D, Pl, hcs, _, hl, hm, hmm, hd, hx⟩
  · simp [Value.cells] at hcs
    obtain ⟨rfl, rfl, rfl⟩ := hcs
    exact ⟨[], RdS.nil _ _ _, by simp, by simp⟩
  · simp [Value.cells] at hcs
    obtain ⟨rfl, rfl, rfl⟩ := hcs
    have hlm : len ≤ m := by rw [hmm]; split <;> omega
    have each : ∀ i, i < len → ∃ q : List Value × α, w.cells? base (x.add (i * E.n)) E.n = some q.1 ∧ E.rep q.1 q.2 ∧ good q.2 := fun i hi => by
      obtain ⟨cs', h1, h2⟩ := hx i (by omega)
      obtain ⟨y, h3, h4⟩ := ho _ _ _ _ _ _ _ _ _ h2
      rw [hc] at h1
      exact ⟨(cs', y), h1, h3, h4⟩
    by_cases h00 : len = 0
    · subst h00
      exact ⟨[], ⟨some x, cap, rfl, hl, hm, fun h0 => absurd h0 (by simp)⟩, by simp, by simp⟩
    haveI : Inhabited (List Value × α) := ⟨(each 0 (by omega)).choose⟩
    clear h00
    obtain ⟨q, hq⟩ := choose_lt each
    refine ⟨(List.range len).map fun i => (q i).2, ⟨some x, cap, by simp, by simpa using hl, hm, fun h0 => ?_⟩, fun y hy => ?_, fun _ => ⟨_, _, (Prod.mk.inj hd).1, by simp⟩⟩
    · simp only [List.length_map, List.length_range] at h0
      obtain ⟨b, o, s⟩ := x
      have hlen : ∀ i, i < len → (q i).1.length = E.n := fun i hi => E.len _ _ (hq i hi).2.1
      have hE := E.pos
      have hs : s = none ∧ b < w.heap.size := by
        obtain ⟨_, _, hh⟩ := World.cells?_some (hq 0 h0).1
        have h00 := hh 0 hE
        rw [List.getElem?_eq_getElem (by rw [hlen 0 h0]; exact hE)] at h00
        simp only [Nat.zero_mul, World.cell?, Addr.add, if_true] at h00
        split at h00
        · rename_i hh
          split at h00
          · simp at h00
          · rename_i hss
            refine ⟨by cases s <;> simp_all, ?_⟩
            exact (Array.getElem?_eq_some_iff.1 hh).1
        · simp at h00
      obtain ⟨rfl, hb⟩ := hs
      have hcell : ∀ i, i < len → ∀ j, j < E.n → w.cell? ⟨b, o + (i * E.n + j), none⟩ = (q i).1[j]? := fun i hi j hj => by
        obtain ⟨_, _, hh⟩ := World.cells?_some (hq i hi).1
        have := hh j hj
        rw [Addr.add_lit, Addr.add_lit] at this
        rw [← this, Nat.add_assoc]
      -- the cells in a row
      have hrow : ∀ m, m ≤ len → E.reps ((List.range m).flatMap fun i => (q i).1) ((List.range m).map fun i => (q i).2) ∧ cellsAt w b o ((List.range m).flatMap fun i => (q i).1) := by
        intro m
        induction m with
        | zero => exact fun _ => ⟨reps_nil E, by intro j hj; simp at hj⟩
        | succ m ih =>
          intro hm'
          obtain ⟨h1, h2⟩ := ih (by omega)
          rw [List.range_succ, List.flatMap_append, List.map_append]
          refine ⟨reps_append h1 (by simpa using reps_one (hq m (by omega)).2.1), ?_⟩
          intro j hj
          have hl1 := h1.1
          simp only [List.length_map, List.length_range] at hl1
          by_cases hj1 : j < ((List.range m).flatMap fun i => (q i).1).length
          · rw [List.getElem?_append_left hj1]; exact h2 j hj1
          · rw [List.getElem?_append_right (by omega), hl1]
            simp only [List.length_append, hl1] at hj hj1
            simp only [List.flatMap_singleton] at hj ⊢
            rw [hlen m (by omega)] at hj
            have := hcell m (by omega) (j - m * E.n) (by omega)
            rw [← this, show m * E.n + (j - m * E.n) = j by omega]
      obtain ⟨h1, h2⟩ := hrow len (Nat.le_refl _)
      exact ⟨b, o, _, rfl, hb, h1, h2⟩
    · obtain ⟨i, hi, rfl⟩ := List.mem_map.1 hy
      exact (hq i (by simpa using hi)).2.2

theorem reachS {H : Type} {ts : List TypeId} {ds : List (DataW H)} {n : Nat} {d : DataW H} {xs : List α} {e t : TypeId} (hsz : (DataW.weightsEach P ts ds).all (· ≤ reachBytes) = true) (j : Nat) (ht : ts[j]? = some t) (hd : ds[j]? = some d)
    (hu : P.underlying t = some (.slice e)) (hb : P.bytesOf e = n) (h : 0 < xs.length → ∃ el sp, d = .slice el sp ∧ el.length = xs.length) : xs.length * n ≤ 140737488351232 := by
  by_cases h0 : 0 < xs.length
  · obtain ⟨el, sp, rfl, hl⟩ := h h0
    have := sized_slice hsz ht hd hu
    rw [hb] at this
    simp only [reachBytes, Nat.add_mul, hl] at this
    omega
  · have : xs.length = 0 := by omega
    rw [this]; simp
end GL
