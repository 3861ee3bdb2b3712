/- The plain law of AgainTakes: both receivers answer alike, frame by frame. -/
import Derived.Test.YtmdigffgmohcnaaG2
import Derived.Test.YtmdigffgmohcnaaGlK
import Derived.Test.YtmdigffgmohcnaaGlW
set_option linter.unusedVariables false
set_option linter.unusedSimpArgs false
set_option maxRecDepth 100000
set_option maxHeartbeats 1000000
namespace Go.Proofs.Ytmdigffgmohcnaa
open Go GL
/-! ### Lists changed by place -/
section
variable {α : Type}
def mi (P : Nat → α → Bool) (g : α → α) (A : List α) : List α := A.mapIdx fun p r => if P p r = true then g r else r
variable {P Q : Nat → α → Bool} {g : α → α} {A : List α}
theorem mi_len : (mi P g A).length = A.length := by simp [mi]
theorem mi_get {p : Nat} (h : p < A.length) : (mi P g A)[p]'(by rw [mi_len]; exact h) = if P p A[p] = true then g A[p] else A[p] := by simp [mi]
theorem mi_get? (p : Nat) : (mi P g A)[p]? = (A[p]?).map fun r => if P p r = true then g r else r := by simp [mi]
theorem mi_congr (h : ∀ p r, A[p]? = some r → P p r = Q p r) : mi P g A = mi Q g A := by
  apply List.ext_getElem?
  intro p
  rw [mi_get?, mi_get?]
  cases hp : A[p]? with
  | none => rfl
  | some r => simp only [Option.map_some]; rw [h p r hp]
theorem mi_set {m : Nat} (hm : m < A.length) (h : ∀ p r, A[p]? = some r → p ≠ m → Q p r = P p r) : mi Q g A = (mi P g A).set m (if Q m A[m] = true then g A[m] else A[m]) := by
  apply List.ext_getElem?
  intro p
  rw [mi_get?]
  by_cases hp : m = p
  · subst hp
    rw [List.getElem?_set_self (by rw [mi_len]; exact hm), List.getElem?_eq_getElem hm]; rfl
  · rw [List.getElem?_set_ne hp, mi_get?]
    cases hq : A[p]? with
    | none => rfl
    | some r => simp only [Option.map_some]; rw [h p r hq (Ne.symm hp)]
theorem mi_none (h : ∀ p r, A[p]? = some r → P p r = false) : mi P g A = A := by
  apply List.ext_getElem?
  intro p
  rw [mi_get?]
  cases hp : A[p]? with
  | none => rfl
  | some r => simp only [Option.map_some]; rw [h p r hp]; rfl
theorem gt_set_self [Inhabited α] {X : List α} {j : Nat} (h : j < X.length) (y : α) : gt (X.set j y) (j : Int) = y := by
  rw [gt_nat (by simpa using h)]; simp
end
theorem loop_run {S R : Type} {f : S → Option (S ⊕ R)} (n : Nat) (s : Nat → S) (r : R) (h1 : ∀ i, i < n → f (s i) = some (.inl (s (i + 1)))) (h2 : f (s n) = some (.inr r)) {s0 : S} (h0 : s0 = s 0) : loop f s0 = some r := by
  subst h0
  have : ∀ k i : Nat, i + k = n → loop f (s i) = some r := by
    intro k
    induction k with
    | zero => intro i hi; obtain rfl : i = n := by omega
              exact loop_done h2
    | succ k ih => intro i hi; rw [loop_step (h1 i (by omega))]; exact ih (i + 1) (by omega)
  exact this n 0 (by omega)

theorem bnd_eq {α β : Type} {o : Option α} {a : α} {f : α → Option β} {r : Option β} (h : o = some a) (h2 : f a = r) : o.bind f = r := by subst h; exact h2
theorem tmodn {x : Int} (h : 0 ≤ x) (m : Int) : x.tmod m = x % m := Int.tmod_eq_emod_of_nonneg h

/-! ### Receivers -/
def kp (KL : List Bool) (k : Nat) : Bool := KL.getD k false
abbrev MP := List (Int × ByteArray)
/-- what the code keeps is what the document has kept, from the next one on -/
def Rv (n : Nat) (M : MP) (KL : List Bool) (BL : List ByteArray) : Prop := ∀ k : Int, mget M k = if (n : Int) ≤ k ∧ kp KL k.toNat = true then some (gt BL k) else none
theorem kept_ok {w n : Int} {KL : List Bool} {BL : List ByteArray} {i : Nat} (hi : (i : Int) < 9000000000000000000) : f_foghornref28_Receiver_kept w n KL BL (i : Int) = some (kp KL i) := by
  unfold f_foghornref28_Receiver_kept kp
  by_cases h : i < KL.length
  · rw [if_pos (by rw [decide_eq_true_eq]; omega), if_pos (by omega), gt_nat h]
    simp [List.getD_eq_getElem?_getD, h]
  · rw [if_neg (by rw [decide_eq_true_eq]; omega)]
    simp [List.getD_eq_getElem?_getD, h]
theorem kp_lt {KL : List Bool} {k : Nat} (h : kp KL k = true) : k < KL.length := by
  unfold kp at h
  rcases Nat.lt_or_ge k KL.length with h1 | h1
  · exact h1
  · rw [List.getD_eq_getElem?_getD, List.getElem?_eq_none h1] at h; cases h
theorem Rv.next {n : Nat} {M : MP} {KL : List Bool} {BL : List ByteArray} (h : Rv n M KL BL) : Rv (n + 1) (mdel M (n : Int)) KL BL := by
  intro k
  rw [mget_del, h k]
  by_cases h1 : k = (n : Int)
  · rw [if_pos h1, if_neg (by omega)]
  · rw [if_neg h1]
    by_cases h2 : (n : Int) ≤ k
    · simp only [h2, true_and, show ((n + 1 : Nat) : Int) ≤ k by omega]
    · rw [if_neg (by omega), if_neg (by omega)]
/-- the messages that are handed up -/
theorem hand_both {w : Int} {KL : List Bool} {BL : List ByteArray} (hl : KL.length = BL.length) (hb : KL.length ≤ 100000) : ∀ (c n : Nat) (M : MP) (H : List ByteArray), n + c = KL.length → H.length ≤ n → Rv n M KL BL →
    ∃ (n' : Nat) (M' : MP) (H' : List ByteArray), loop f_again_Receiver_Take.s1 (w, (n : Int), M, H) = some (w, (n' : Int), M', H') ∧ loop f_foghornref28_Receiver_Take.s1 (w, (n : Int), KL, BL, H) = some (w, (n' : Int), KL, BL, H') ∧ Rv n' M' KL BL ∧ n' ≤ KL.length ∧ H'.length ≤ n' := by
  intro c
  induction c with
  | zero =>
    intro n M H hn hH hR
    have hk : kp KL n = false := by
      cases h : kp KL n with
      | false => rfl
      | true => have := kp_lt h; omega
    have hg : mget M (n : Int) = none := by rw [hR n, if_neg (by simp [hk])]
    refine ⟨n, M, H, loop_done ?_, loop_done ?_, hR, by omega, hH⟩
    · simp only [f_again_Receiver_Take.s1, f_again_Receiver_Take.s1c, hg]; rfl
    · simp only [f_foghornref28_Receiver_Take.s1, f_foghornref28_Receiver_Take.s1c]
      rw [kept_ok (by omega), hk]; rfl
  | succ c ih =>
    intro n M H hn hH hR
    cases hk : kp KL n with
    | false =>
      have hg : mget M (n : Int) = none := by rw [hR n, if_neg (by simp [hk])]
      refine ⟨n, M, H, loop_done ?_, loop_done ?_, hR, by omega, hH⟩
      · simp only [f_again_Receiver_Take.s1, f_again_Receiver_Take.s1c, hg]; rfl
      · simp only [f_foghornref28_Receiver_Take.s1, f_foghornref28_Receiver_Take.s1c]
        rw [kept_ok (by omega), hk]; rfl
    | true =>
      have hg : mget M (n : Int) = some (gt BL (n : Int)) := by rw [hR n, if_pos ⟨by omega, by simpa using hk⟩]
      obtain ⟨n', M', H', e1, e2, e3, e4, e5⟩ := ih (n + 1) (mdel M (n : Int)) (H ++ [gt BL (n : Int)]) (by omega) (by simp; omega) hR.next
      refine ⟨n', M', H', ?_, ?_, e3, e4, e5⟩
      · rw [loop_step (s' := (w, ((n + 1 : Nat) : Int), mdel M (n : Int), H ++ [gt BL (n : Int)])) ?_, e1]
        simp only [f_again_Receiver_Take.s1, f_again_Receiver_Take.s1c, hg]
        rw [if_neg (by simp), if_pos (by simp only [List.length_cons, List.length_nil]; omega), w64 (by omega) (by omega)]
        rfl
      · rw [loop_step (s' := (w, ((n + 1 : Nat) : Int), KL, BL, H ++ [gt BL (n : Int)])) ?_, e2]
        simp only [f_foghornref28_Receiver_Take.s1, f_foghornref28_Receiver_Take.s1c]
        rw [kept_ok (by omega), hk]
        simp only [Option.bind_some, if_true]
        rw [if_pos (by omega), if_pos (by simp only [List.length_cons, List.length_nil]; omega), w64 (by omega) (by omega)]
        rfl
/-! The marks -/
theorem bit_ok : ∀ x : Fin 256, ∀ r : Fin 8, x.val % 2 ^ (8 - r.val) = 0 →
    ior .u8 (x.val : Int) (ishr .u8 128 (r.val : Int)) = ((x.val + 2 ^ (7 - r.val) : Nat) : Int) ∧ IntKind.u8.wrap ((x.val : Int) + ishl .u8 1 ((7 - r.val : Nat) : Int)) = ((x.val + 2 ^ (7 - r.val) : Nat) : Int) ∧ x.val + 2 ^ (7 - r.val) < 256 ∧ (x.val + 2 ^ (7 - r.val)) % 2 ^ (7 - r.val) = 0 := by
  decide +kernel
def MInv (i : Nat) (ml : List Int) : Prop := ml.length = 16 ∧ ∀ b : Nat, b < 16 → ∃ x : Nat, gt ml (b : Int) = (x : Int) ∧ x < 256 ∧ (i / 8 < b → x = 0) ∧ (i / 8 = b → x % 2 ^ (8 - i % 8) = 0)
theorem MInv.zero : MInv 0 (List.replicate 16 (0 : Int)) := by
  refine ⟨by simp, fun b hb => ⟨0, ?_, by omega, fun _ => rfl, fun _ => by simp⟩⟩
  rw [gt_nat (by simpa using hb), List.getElem_replicate]; rfl
theorem MInv.skip {i : Nat} {ml : List Int} (h : MInv i ml) : MInv (i + 1) ml := by
  refine ⟨h.1, fun b hb => ?_⟩
  obtain ⟨x, e1, e2, e3, e4⟩ := h.2 b hb
  refine ⟨x, e1, e2, fun h1 => e3 (by omega), fun h1 => ?_⟩
  by_cases h2 : i / 8 = b
  · have h5 := e4 h2
    have e : 8 - (i + 1) % 8 + 1 = 8 - i % 8 := by omega
    rw [← e, Nat.pow_succ] at h5
    exact Nat.mod_eq_zero_of_dvd (Nat.dvd_trans (Nat.dvd_mul_right _ 2) (Nat.dvd_of_mod_eq_zero h5))
  · have : x = 0 := e3 (by omega)
    rw [this]; exact Nat.zero_mod _
theorem MInv.put {i : Nat} {ml : List Int} (h : MInv i ml) (hi : i < 128) :
    ∃ y : Int, ior .u8 (gt ml ((i / 8 : Nat) : Int)) (ishr .u8 128 ((i % 8 : Nat) : Int)) = y ∧ IntKind.u8.wrap (gt ml ((i / 8 : Nat) : Int) + ishl .u8 1 ((7 - i % 8 : Nat) : Int)) = y ∧ MInv (i + 1) (ml.set (i / 8) y) := by
  obtain ⟨x, e1, e2, e3, e4⟩ := h.2 (i / 8) (by omega)
  obtain ⟨b1, b2, b3, b4⟩ := bit_ok ⟨x, e2⟩ ⟨i % 8, Nat.mod_lt _ (by omega)⟩ (e4 rfl)
  simp only at b1 b2 b3 b4
  refine ⟨((x + 2 ^ (7 - i % 8) : Nat) : Int), by rw [e1]; exact b1, by rw [e1]; exact b2, by rw [List.length_set]; exact h.1, fun b hb => ?_⟩
  by_cases hbi : i / 8 = b
  · subst hbi
    refine ⟨x + 2 ^ (7 - i % 8), by rw [gt_set_self (by rw [h.1]; omega)], b3, fun h1 => by omega, fun h1 => ?_⟩
    rw [show 8 - (i + 1) % 8 = 7 - i % 8 by omega]; exact b4
  · obtain ⟨z, z1, z2, z3, z4⟩ := h.2 b hb
    refine ⟨z, ?_, z2, fun h1 => z3 (by omega), fun h1 => ?_⟩
    · rw [gt_nat (by rw [List.length_set, h.1]; exact hb), List.getElem_set_ne hbi, ← gt_nat]; exact z1
    · have : z = 0 := z3 (by omega)
      rw [this]; exact Nat.zero_mod _
theorem marks_both {w : Int} {KL : List Bool} {BL H : List ByteArray} {n : Nat} {M : MP} (hn : n ≤ 100000) (hR : Rv n M KL BL) : ∀ (k i : Nat) (ml : List Int), i + k = 128 → MInv i ml →
    ∃ q, loop (f_again_Receiver_Take.s2 (w, (n : Int), M, H)) (ml, (i : Int)) = some q ∧ loop (f_foghornref28_Receiver_Take.s2 (w, (n : Int), KL, BL, H)) (ml, (i : Int)) = some q := by
  intro k
  induction k with
  | zero =>
    intro i ml hi hM
    refine ⟨ml, loop_done ?_, loop_done ?_⟩
    · simp only [f_again_Receiver_Take.s2, f_again_Receiver_Take.s2c]
      rw [if_neg (by rw [decide_eq_true_eq]; omega)]
    · simp only [f_foghornref28_Receiver_Take.s2, f_foghornref28_Receiver_Take.s2c]
      rw [if_neg (by rw [decide_eq_true_eq]; omega)]
  | succ k ih =>
    intro i ml hi hM
    have e1 : IntKind.i64.wrap (IntKind.i64.wrap ((n : Int) + 1) + (i : Int)) = ((n + 1 + i : Nat) : Int) := by rw [w64 (x := (n : Int) + 1) (by omega) (by omega), w64 (by omega) (by omega)]; omega
    have e2 : IntKind.i64.wrap ((i : Int) + 1) = ((i + 1 : Nat) : Int) := by rw [w64 (by omega) (by omega)]; omega
    have e3 : IntKind.i64.wrap (((i : Int)).tdiv 8) = ((i / 8 : Nat) : Int) := by rw [show ((i : Int)).tdiv 8 = ((i / 8 : Nat) : Int) from tdiv_nat i 8, w64 (by omega) (by omega)]
    have e4 : ((i : Int)).tmod 8 = ((i % 8 : Nat) : Int) := tmod_nat i 8
    have e5 : IntKind.i64.wrap (7 - ((i % 8 : Nat) : Int)) = ((7 - i % 8 : Nat) : Int) := by rw [w64 (by omega) (by omega)]; omega
    have hg : (mget M ((n + 1 + i : Nat) : Int)).isSome = kp KL (n + 1 + i) := by
      rw [hR, Int.toNat_natCast]
      have hle : (n : Int) ≤ ((n + 1 + i : Nat) : Int) := by omega
      cases hk : kp KL (n + 1 + i) with
      | true => rw [if_pos ⟨hle, rfl⟩]; rfl
      | false => rw [if_neg (fun h => by cases h.2)]; rfl
    cases hk : kp KL (n + 1 + i) with
    | false =>
      obtain ⟨q, q1, q2⟩ := ih (i + 1) ml (by omega) hM.skip
      refine ⟨q, ?_, ?_⟩
      · rw [loop_step (s' := (ml, ((i + 1 : Nat) : Int))) ?_, q1]
        simp only [f_again_Receiver_Take.s2, f_again_Receiver_Take.s2c]
        rw [if_pos (by rw [decide_eq_true_eq]; omega), e1, hg, hk, if_neg (by simp), e2]
      · rw [loop_step (s' := (ml, ((i + 1 : Nat) : Int))) ?_, q2]
        simp only [f_foghornref28_Receiver_Take.s2, f_foghornref28_Receiver_Take.s2c]
        rw [if_pos (by rw [decide_eq_true_eq]; omega), e1, kept_ok (by omega), hk]
        simp only [Option.bind_some]
        rw [if_neg (by simp), e2]
    | true =>
      obtain ⟨y, y1, y2, y3⟩ := hM.put (by omega)
      obtain ⟨q, q1, q2⟩ := ih (i + 1) (ml.set (i / 8) y) (by omega) y3
      have hml := hM.1
      refine ⟨q, ?_, ?_⟩
      · rw [loop_step (s' := (ml.set (i / 8) y, ((i + 1 : Nat) : Int))) ?_, q1]
        simp only [f_again_Receiver_Take.s2, f_again_Receiver_Take.s2c]
        rw [if_pos (by rw [decide_eq_true_eq]; omega), e1, hg, hk, if_pos rfl, e3, if_pos (by omega), e4, if_pos (by omega), if_pos (by omega), e2, y1, Int.toNat_natCast]
      · rw [loop_step (s' := (ml.set (i / 8) y, ((i + 1 : Nat) : Int))) ?_, q2]
        simp only [f_foghornref28_Receiver_Take.s2, f_foghornref28_Receiver_Take.s2c]
        rw [if_pos (by rw [decide_eq_true_eq]; omega), e1, kept_ok (by omega), hk]
        simp only [Option.bind_some]
        simp only [if_true]
        rw [e3, if_pos (by rw [hml]; omega), e4, e5, if_pos (by omega), if_pos (by rw [hml]; omega), e2, y2, Int.toNat_natCast]
theorem j1_both {w : Int} {KL : List Bool} {BL : List ByteArray} {n : Nat} {M : MP} (hl : KL.length = BL.length) (hb : KL.length ≤ 100000) (hn : n ≤ KL.length) (hR : Rv n M KL BL) :
    ∃ (H : List ByteArray) (fr : Int × Int × Bool × ByteArray) (n' : Nat) (M' : MP), f_again_Receiver_Take.j1 w (n : Int) M = some (H, fr, 0, w, (n' : Int), M') ∧ f_foghornref28_Receiver_Take.j1 w (n : Int) KL BL = some (H, fr, 0, w, (n' : Int), KL, BL) ∧ Rv n' M' KL BL ∧ n' ≤ KL.length ∧ H.length ≤ 100000 := by
  obtain ⟨n', M', H', e1, e2, e3, e4, e5⟩ := hand_both (w := w) hl hb (KL.length - n) n M [] (by omega) (by simp) hR
  obtain ⟨q, q1, q2⟩ := marks_both (w := w) (H := H') (by omega) e3 128 0 _ rfl MInv.zero
  refine ⟨H', (2, IntKind.u8.wrap (n' : Int), false, bstr q), n', M', ?_, ?_, e3, e4, by omega⟩
  · unfold f_again_Receiver_Take.j1
    rw [e1]
    simp only [Option.bind_some]
    have q1' : loop (f_again_Receiver_Take.s2 (w, (n' : Int), M', H')) (List.replicate 16 (0 : Int), 0) = some q := q1
    rw [q1']; rfl
  · unfold f_foghornref28_Receiver_Take.j1
    rw [e2]
    simp only [Option.bind_some]
    have q2' : loop (f_foghornref28_Receiver_Take.s2 (w, (n' : Int), KL, BL, H')) (List.replicate ((16 : Int)).toNat (0 : Int), 0) = some q := q2
    rw [if_pos (by omega), q2']
    simp only [Option.bind_some]
    have : IntKind.u8.wrap (((n' : Int)).tmod 256) = IntKind.u8.wrap (n' : Int) := by rw [tmodn (by omega), IntKind.wrap_u8, IntKind.wrap_u8]; omega
    rw [this]
/-- the lists get longer -/
theorem long_ok {w N : Int} {n D : Nat} {KL : List Bool} {BL : List ByteArray} (hl : KL.length = BL.length) (hb : n + D ≤ 100000) (hb2 : KL.length ≤ 100000) (h0 : 0 ≤ N) (h1 : N < 256) (hD : D = ((N - n) % 256).toNat) :
    loop (f_foghornref28_Receiver_Take.s3 (n : Int) N) (w, (n : Int), KL, BL) = some (w, (n : Int), KL ++ List.replicate (n + D + 1 - KL.length) false, BL ++ List.replicate (n + D + 1 - KL.length) ByteArray.empty) := by
  have hdd : (IntKind.i64.wrap (IntKind.i64.wrap (IntKind.i64.wrap N - ((n : Int)).tmod 256) + 256)).tmod 256 = ((((N - n) % 256).toNat : Nat) : Int) := by
    rw [show ((n : Int)).tmod 256 = (n : Int) % 256 from tmodn (by omega) _, w64 (x := N) (by omega) (by omega), w64 (x := N - (n : Int) % 256) (by omega) (by omega), w64 (by omega) (by omega), tmodn (by omega)]; omega
  refine loop_run (n + D + 1 - KL.length) (fun j => (w, (n : Int), KL ++ List.replicate j false, BL ++ List.replicate j ByteArray.empty)) _ (fun j hj => ?_) ?_ ?_
  · simp only [f_foghornref28_Receiver_Take.s3, f_foghornref28_Receiver_Take.s3c]
    rw [hdd, ← hD, w64 (x := (n : Int) + (D : Int)) (by omega) (by omega), if_pos (by rw [decide_eq_true_eq]; simp; omega), if_pos (by simp; omega), if_pos (by simp; omega)]
    rw [List.append_assoc, List.append_assoc, ← List.replicate_succ', show [ByteArray.mk #[]] = [ByteArray.empty] from rfl, ← List.replicate_succ']
  · simp only [f_foghornref28_Receiver_Take.s3, f_foghornref28_Receiver_Take.s3c]
    rw [hdd, ← hD, w64 (x := (n : Int) + (D : Int)) (by omega) (by omega), if_neg (by rw [decide_eq_true_eq]; simp; omega)]
  · simp
theorem kp_app (KL : List Bool) (m k : Nat) : kp (KL ++ List.replicate m false) k = kp KL k := by
  unfold kp
  rw [List.getD_eq_getElem?_getD, List.getD_eq_getElem?_getD]
  rcases Nat.lt_or_ge k KL.length with h | h
  · rw [List.getElem?_append_left h]
  · rw [List.getElem?_append_right h, List.getElem?_eq_none h, List.getElem?_replicate]; split <;> rfl
theorem kp_set {KL : List Bool} {p k : Nat} (hp : p < KL.length) : kp (KL.set p true) k = if k = p then true else kp KL k := by
  unfold kp
  rw [List.getD_eq_getElem?_getD, List.getD_eq_getElem?_getD]
  by_cases h : k = p
  · subst h; rw [List.getElem?_set_self hp]; simp
  · rw [List.getElem?_set_ne (Ne.symm h), if_neg h]
theorem gt_bl {BL : List ByteArray} {p k : Nat} {b : ByteArray} (hp : p < BL.length) (hk : k < BL.length) : gt (BL.set p b) (k : Int) = if k = p then b else gt BL (k : Int) := by
  by_cases h : k = p
  · subst h; rw [if_pos rfl, gt_set_self hp]
  · rw [if_neg h, gt_nat (by simpa using hk), List.getElem_set_ne (Ne.symm h), gt_nat hk]
theorem gt_app0 {BL : List ByteArray} {m k : Nat} (hk : k < BL.length) : gt (BL ++ List.replicate m ByteArray.empty) (k : Int) = gt BL (k : Int) := by
  rw [gt_nat (by simp; omega), List.getElem_append_left hk, gt_nat hk]
theorem Take_both {W : Nat} {N kd : Int} {mo : Bool} {body : ByteArray} {KL : List Bool} {BL : List ByteArray} {n : Nat} {M : MP} (hW : W ≤ 128) (hl : KL.length = BL.length) (hb : KL.length ≤ 90000) (hn : n ≤ KL.length) (hR : Rv n M KL BL) (h0 : 0 ≤ N) (h1 : N < 256) :
    ∃ (H : List ByteArray) (fr : Int × Int × Bool × ByteArray) (e : Int) (n' : Nat) (M' : MP) (KL' : List Bool) (BL' : List ByteArray), f_again_Receiver_Take (W : Int) (n : Int) M kd N mo body = some (H, fr, e, (W : Int), (n' : Int), M') ∧ f_foghornref28_Receiver_Take (W : Int) (n : Int) KL BL kd N mo body = some (H, fr, e, (W : Int), (n' : Int), KL', BL') ∧
      Rv n' M' KL' BL' ∧ KL'.length = BL'.length ∧ KL'.length ≤ KL.length + 129 ∧ n' ≤ KL'.length ∧ H.length ≤ 100000 := by
  unfold f_again_Receiver_Take f_foghornref28_Receiver_Take
  by_cases hg : (((kd != (1 : Int)) || mo) || (decide ((240 : Int) < (body.size : Int)))) = true
  · exact ⟨[], (0, 0, false, ByteArray.empty), 4, n, M, KL, BL, by rw [if_pos hg], by rw [if_pos hg], hR, hl, by omega, hn, by simp⟩
  rw [if_neg hg, if_neg hg]
  obtain ⟨D, hD⟩ : ∃ D, D = ((N - n) % 256).toNat := ⟨_, rfl⟩
  have c1 : IntKind.i64.wrap (IntKind.u8.wrap (N - IntKind.u8.wrap (n : Int))) = (D : Int) := by
    rw [IntKind.wrap_u8, IntKind.wrap_u8, w64 (by omega) (by omega)]; omega
  have c2 : (IntKind.i64.wrap (IntKind.i64.wrap (IntKind.i64.wrap N - ((n : Int)).tmod 256) + 256)).tmod 256 = (D : Int) := by
    rw [show ((n : Int)).tmod 256 = (n : Int) % 256 from tmodn (by omega) _, w64 (x := N) (by omega) (by omega), w64 (x := N - (n : Int) % 256) (by omega) (by omega), w64 (by omega) (by omega), tmodn (by omega)]; omega
  have c3 : IntKind.i64.wrap ((n : Int) + (D : Int)) = ((n + D : Nat) : Int) := by rw [w64 (by omega) (by omega)]; omega
  rw [c1, c2, c3]
  have same : ∃ (H : List ByteArray) (fr : Int × Int × Bool × ByteArray) (e : Int) (n' : Nat) (M' : MP) (KL' : List Bool) (BL' : List ByteArray), f_again_Receiver_Take.j1 (W : Int) (n : Int) M = some (H, fr, e, (W : Int), (n' : Int), M') ∧ f_foghornref28_Receiver_Take.j1 (W : Int) (n : Int) KL BL = some (H, fr, e, (W : Int), (n' : Int), KL', BL') ∧
      Rv n' M' KL' BL' ∧ KL'.length = BL'.length ∧ KL'.length ≤ KL.length + 129 ∧ n' ≤ KL'.length ∧ H.length ≤ 100000 := by
    obtain ⟨H, fr, n', M', e1, e2, e3, e4, e5⟩ := j1_both (w := (W : Int)) hl (by omega) hn hR
    exact ⟨H, fr, 0, n', M', KL, BL, e1, e2, e3, hl, by omega, e4, e5⟩
  by_cases hd : D < W
  · have hdt : decide ((D : Int) < (W : Int)) = true := by rw [decide_eq_true_eq]; omega
    rw [kept_ok (by omega)]
    simp only [hdt, if_true, Option.bind_some]
    have hgk : mget M ((n + D : Nat) : Int) = if kp KL (n + D) = true then some (gt BL ((n + D : Nat) : Int)) else none := by
      rw [hR]; simp only [Int.toNat_natCast, show (n : Int) ≤ ((n + D : Nat) : Int) by omega, true_and]
    cases hk : kp KL (n + D) with
    | true =>
      rw [hk] at hgk
      simp only [hgk, if_true, Option.isSome_some, Bool.not_true, Bool.false_eq_true, if_false]
      exact same
    | false =>
      rw [hk] at hgk
      simp only [hgk, Bool.false_eq_true, if_false, Option.isSome_none, Bool.not_false, if_true]
      rw [long_ok hl (by omega) (by omega) h0 h1 hD]
      simp only [Option.bind_some]
      rw [c3, if_pos (by simp; omega), if_pos (by simp; omega), Int.toNat_natCast]
      have hlen : n + D < (KL ++ List.replicate (n + D + 1 - KL.length) false).length := by simp; omega
      have hlb : n + D < (BL ++ List.replicate (n + D + 1 - KL.length) ByteArray.empty).length := by simp; omega
      have hR2 : Rv n (mput M ((n + D : Nat) : Int) body) ((KL ++ List.replicate (n + D + 1 - KL.length) false).set (n + D) true) ((BL ++ List.replicate (n + D + 1 - KL.length) ByteArray.empty).set (n + D) body) := by
        intro k
        rw [mget_put, kp_set hlen, kp_app]
        by_cases hkk : k = ((n + D : Nat) : Int)
        · subst hkk
          rw [if_pos rfl, if_pos ⟨by omega, by rw [Int.toNat_natCast, if_pos rfl]⟩, gt_set_self hlb]
        · rw [if_neg hkk, hR k]
          by_cases h2 : (n : Int) ≤ k
          · obtain ⟨m, rfl⟩ : ∃ m : Nat, k = (m : Int) := ⟨k.toNat, by omega⟩
            have hmne : m ≠ n + D := fun e => hkk (by rw [e])
            simp only [Int.toNat_natCast, h2, true_and, if_neg hmne]
            by_cases h3 : kp KL m = true
            · have := kp_lt h3
              rw [if_pos h3, if_pos h3, gt_bl hlb (by simp; omega), if_neg hmne, gt_app0 (by omega)]
            · rw [if_neg h3, if_neg h3]
          · rw [if_neg (by omega), if_neg (by omega)]
      obtain ⟨H, fr, n', M', e1, e2, e3, e4, e5⟩ := j1_both (w := (W : Int)) (KL := (KL ++ List.replicate (n + D + 1 - KL.length) false).set (n + D) true) (BL := (BL ++ List.replicate (n + D + 1 - KL.length) ByteArray.empty).set (n + D) body) (n := n) (M := mput M ((n + D : Nat) : Int) body) (by simp; omega) (by simp; omega) (by simp; omega) hR2
      exact ⟨H, fr, 0, n', M', _, _, e1, e2, e3, by simp; omega, by simp; omega, e4, e5⟩
  · have hdt : decide ((D : Int) < (W : Int)) = false := by rw [decide_eq_false_iff_not]; omega
    simp only [hdt, Option.bind_some, Bool.false_eq_true, if_false]
    exact same
theorem seq_refl' (s : ByteArray) : seq s s = true := by simp [seq]
theorem sameTexts_ok (l : List ByteArray) (hl : l.length ≤ 100000) : f_foghornlaw28_sameTexts l l = some true := by
  unfold f_foghornlaw28_sameTexts
  rw [if_neg (by simp)]
  refine bnd_eq (a := Sum.inl ()) (loop_for1 l.length _ (fun i hi => ?_) ?_) rfl
  · simp only [f_foghornlaw28_sameTexts.s1, f_foghornlaw28_sameTexts.s1c]
    rw [if_pos (by rw [decide_eq_true_eq]; omega), if_pos (by omega), if_pos (by omega), seq_refl', if_neg (by simp), w64 (by omega) (by omega)]; rfl
  · simp only [f_foghornlaw28_sameTexts.s1, f_foghornlaw28_sameTexts.s1c]
    rw [if_neg (by rw [decide_eq_true_eq]; omega)]
theorem clearT_ok (l : List ByteArray) (hl : l.length ≤ 100000) : ∃ u, loop f_foghornlaw28_AgainTakes.s2 (l, 0) = some u := by
  refine ⟨(), loop_run l.length (fun j => (mi (fun p _ => decide (p < j)) (fun _ => ByteArray.mk #[63]) l, (j : Int))) _ (fun j hj => ?_) ?_ ?_⟩
  · simp only [f_foghornlaw28_AgainTakes.s2, f_foghornlaw28_AgainTakes.s2c]
    rw [mi_len, if_pos (by rw [decide_eq_true_eq]; omega), if_pos (by omega), w64 (by omega) (by omega), Int.toNat_natCast]
    have hs := mi_set (P := fun p _ => decide (p < j)) (Q := fun p _ => decide (p < j + 1)) (g := fun (_ : ByteArray) => ByteArray.mk #[63]) hj (fun p r _ hp => by congr 1; simp; omega)
    rw [hs]; simp
  · simp only [f_foghornlaw28_AgainTakes.s2, f_foghornlaw28_AgainTakes.s2c]
    rw [mi_len, if_neg (by rw [decide_eq_true_eq]; omega)]
  · rw [mi_none fun p r _ => by simp]; rfl
abbrev Tt := Int × Int × MP × Int × Int × List Bool × List ByteArray × Int
def ttA (W n : Nat) (M : MP) (KL : List Bool) (BL : List ByteArray) (i : Nat) : Tt := ((W : Int), (n : Int), M, (W : Int), (n : Int), KL, BL, (i : Int))
def Tok (i n : Nat) (M : MP) (KL : List Bool) (BL : List ByteArray) : Prop := KL.length = BL.length ∧ KL.length ≤ i * 129 ∧ n ≤ KL.length ∧ Rv n M KL BL
theorem tj1_ok {W i n : Nat} {N kd : Int} {mo : Bool} {body : ByteArray} {M : MP} {KL : List Bool} {BL : List ByteArray} (hW : W ≤ 128) (hi : i ≤ 400) (hT : Tok i n M KL BL) (h0 : 0 ≤ N) (h1 : N < 256) :
    ∃ (n' : Nat) (M' : MP) (KL' : List Bool) (BL' : List ByteArray), f_foghornlaw28_AgainTakes.j1 (W : Int) (n : Int) M (W : Int) (n : Int) KL BL (i : Int) kd N mo body = some (.inl (ttA W n' M' KL' BL' (i + 1))) ∧ Tok (i + 1) n' M' KL' BL' := by
  obtain ⟨t1, t2, t3, t4⟩ := hT
  obtain ⟨H, fr, e, n', M', KL', BL', e1, e2, e3, e4, e5, e6, e7⟩ := Take_both (kd := kd) (mo := mo) (body := body) hW t1 (by omega) t3 t4 h0 h1
  refine ⟨n', M', KL', BL', ?_, e4, by omega, e6, e3⟩
  unfold f_foghornlaw28_AgainTakes.j1
  rw [e1, e2]
  simp only [Option.bind_some]
  rw [if_neg (by simp), sameTexts_ok H e7]
  simp only [Option.bind_some, Bool.not_true, Bool.false_eq_true, if_false, f_foghornlaw28_same, f_again_Receiver_Handed, BEq.rfl, seq_refl', Bool.and_self, bne_self_eq_false]
  obtain ⟨u, hu⟩ := clearT_ok H e7
  rw [hu]
  simp only [Option.bind_some]
  rw [w64 (by omega) (by omega)]
  rfl
theorem takes_true (Wi : Int) (w0 : (Lit.int .i64 Wi).wf = true)
    (l : List (Int × Int × Bool × (Int × Int × Bool × ByteArray))) (w2 : ∀ x ∈ l, (Lit.int .u8 x.1).wf = true ∧ (Lit.int .i64 x.2.1).wf = true ∧ True ∧ ((Lit.int .u8 x.2.2.2.1).wf = true ∧ (Lit.int .u8 x.2.2.2.2.1).wf = true ∧ True ∧ x.2.2.2.2.2.2.size ≤ maxLen)) {g : Prop} (r2 : g) :
    f_foghornlaw28_AgainTakes Wi l = some true := by
  unfold f_foghornlaw28_AgainTakes
  have eC : f_again_NewReceiver Wi = if ((decide (Wi < (1 : Int))) || (decide ((128 : Int) < Wi))) = true then some (none, 1) else some (some (Wi, 0, []), 0) := rfl
  have eR : f_foghornref28_NewReceiver Wi = if ((decide (Wi < (1 : Int))) || (decide ((128 : Int) < Wi))) = true then some (none, 1) else some (some (Wi, 0, [], []), 0) := rfl
  by_cases hc : ((decide (Wi < (1 : Int))) || (decide ((128 : Int) < Wi))) = true
  · rw [eC, eR, if_pos hc, if_pos hc]; rfl
  rw [eC, eR, if_neg hc, if_neg hc]
  simp only [Option.bind_some]
  rw [if_neg (by simp), if_neg (by simp)]
  simp at hc
  obtain ⟨W, rfl⟩ : ∃ W : Nat, Wi = (W : Int) := ⟨Wi.toNat, by omega⟩
  have hW : W ≤ 128 := by omega
  have hstep : ∀ (n : Nat) (M : MP) (KL : List Bool) (BL : List ByteArray) (i : Nat), f_foghornlaw28_AgainTakes.s1 l (ttA W n M KL BL i) = f_foghornlaw28_AgainTakes.s1c l (W : Int) (n : Int) M (W : Int) (n : Int) KL BL (i : Int) := fun _ _ _ _ _ => rfl
  have main : ∀ k i : Nat, i + k = min l.length 400 → ∀ n M KL BL, Tok i n M KL BL → loop (f_foghornlaw28_AgainTakes.s1 l) (ttA W n M KL BL i) = some (.inl ()) := by
    intro k
    induction k with
    | zero =>
      intro i hi n M KL BL hT
      refine loop_done ?_
      rw [hstep]; unfold f_foghornlaw28_AgainTakes.s1c
      rw [if_neg (by simp; omega)]
    | succ k ih =>
      intro i hi n M KL BL hT
      have hil : i < l.length := by omega
      have key : ∃ (n' : Nat) (M' : MP) (KL' : List Bool) (BL' : List ByteArray), f_foghornlaw28_AgainTakes.s1 l (ttA W n M KL BL i) = some (.inl (ttA W n' M' KL' BL' (i + 1))) ∧ Tok (i + 1) n' M' KL' BL' := by
        rw [hstep]; unfold f_foghornlaw28_AgainTakes.s1c
        have hci : 0 ≤ (i : Int) ∧ (i : Int) < (l.length : Int) := by omega
        rw [if_pos (by simp; omega), if_pos hci, if_pos hci, gt_nat hil]
        obtain ⟨g1, g2, _, g3, g4, _, g5⟩ := w2 _ (List.getElem_mem hil)
        have N0 := wf_u8 g4
        generalize l[i] = x at *
        by_cases c2 : x.2.2.1 = true
        · rw [if_pos c2]
          exact tj1_ok hW (by omega) hT (by rw [IntKind.wrap_u8]; omega) (by rw [IntKind.wrap_u8]; omega)
        · rw [if_neg c2]
          exact tj1_ok hW (by omega) hT N0.1 N0.2
      obtain ⟨n', M', KL', BL', h1, h2⟩ := key
      rw [loop_step h1]
      exact ih (i + 1) (by omega) n' M' KL' BL' h2
  have h0 := main (min l.length 400) 0 (by omega) 0 [] [] [] ⟨rfl, by simp, by simp, fun k => by simp [mget_nil, kp]⟩
  have e : ((W : Int), (0 : Int), ([] : MP), (W : Int), (0 : Int), ([] : List Bool), ([] : List ByteArray), (0 : Int)) = ttA W 0 [] [] [] 0 := rfl
  rw [e, h0]
  rfl

end Go.Proofs.Ytmdigffgmohcnaa
