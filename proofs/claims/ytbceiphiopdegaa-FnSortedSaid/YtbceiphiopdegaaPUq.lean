/-
  Plain laws for UniquePoints: points in order, each kept once.
-/
import Derived.Test.YtbceiphiopdegaaPSortL
set_option linter.unusedSimpArgs false
set_option linter.unusedVariables false
namespace Go.Proofs.Ytbceiphiopdegaa.Pt
open Go.RowKit

/-- place i differs from the one before it -/
def kp (ys : List Nat) (i : Nat) : Bool := i == 0 || !sameC (va ys i) (va ys (i - 1))
/-- the first k places, each point kept once -/
def uq (ys : List Nat) : Nat → List Nat
  | 0 => []
  | k + 1 => uq ys k ++ (if kp ys k then [va ys k] else [])
theorem kp_zero (ys : List Nat) : kp ys 0 = true := rfl
theorem kp_pos (ys : List Nat) {i : Nat} (h : 0 < i) : kp ys i = !sameC (va ys i) (va ys (i - 1)) := by
  unfold kp; rw [beq_eq_false_iff_ne.2 (by omega), Bool.false_or]
theorem uq_yes {ys : List Nat} {k : Nat} (h : kp ys k = true) : uq ys (k + 1) = uq ys k ++ [va ys k] := by show _ ++ (if kp ys k then _ else _) = _; rw [if_pos h]
theorem uq_no {ys : List Nat} {k : Nat} (h : kp ys k = false) : uq ys (k + 1) = uq ys k := by show _ ++ (if kp ys k then _ else _) = _; rw [h]; simp
theorem uq_len (ys : List Nat) : ∀ k, (uq ys k).length ≤ k
  | 0 => Nat.le_refl _
  | k + 1 => by
    have := uq_len ys k
    cases h : kp ys k
    · rw [uq_no h]; omega
    · rw [uq_yes h, List.length_append, List.length_singleton]; omega
theorem uq_pos (ys : List Nat) {k : Nat} (hk : 1 ≤ k) : 1 ≤ (uq ys k).length := by
  induction k with
  | zero => omega
  | succ k ih =>
    by_cases h0 : k = 0
    · subst h0; exact Nat.le_refl _
    · have := ih (by omega)
      show 1 ≤ (uq ys k ++ _).length
      rw [List.length_append]; omega
theorem uq_mem {ys : List Nat} {x : Nat} : ∀ {k : Nat}, x ∈ uq ys k → ∃ i, i < k ∧ x = va ys i
  | 0, h => by simp [uq] at h
  | k + 1, h => by
    cases hk : kp ys k
    · rw [uq_no hk] at h
      obtain ⟨i, h1, h2⟩ := uq_mem h
      exact ⟨i, by omega, h2⟩
    · rw [uq_yes hk, List.mem_append] at h
      rcases h with h | h
      · obtain ⟨i, h1, h2⟩ := uq_mem h
        exact ⟨i, by omega, h2⟩
      · exact ⟨k, by omega, List.mem_singleton.1 h⟩
/-- every place below k has its point kept -/
theorem uq_has {ys : List Nat} (hB : ∀ i, i < ys.length → va ys i < B64) : ∀ k, k ≤ ys.length → ∀ i, i < k → ∃ x ∈ uq ys k, keyC x = keyC (va ys i)
  | 0, _, i, h => by omega
  | k + 1, hk, i, h => by
    by_cases e : i < k
    · obtain ⟨x, h1, h2⟩ := uq_has hB k (by omega) i e
      exact ⟨x, by show x ∈ uq ys k ++ _; exact List.mem_append.2 (.inl h1), h2⟩
    · obtain rfl : i = k := by omega
      cases hq : kp ys i
      · by_cases h0 : i = 0
        · subst h0; rw [kp_zero] at hq; cases hq
        · rw [kp_pos ys (by omega), Bool.not_eq_false', sameC_key (hB i (by omega)) (hB (i - 1) (by omega)), decide_eq_true_iff] at hq
          obtain ⟨x, h1, h2⟩ := uq_has hB i (by omega) (i - 1) (by omega)
          exact ⟨x, by show x ∈ uq ys i ++ _; exact List.mem_append.2 (.inl h1), by rw [h2, hq]⟩
      · exact ⟨va ys i, by rw [uq_yes hq]; exact List.mem_append.2 (.inr (List.mem_singleton.2 rfl)), rfl⟩
/-- points whose places rise -/
def Incr (us : List Nat) : Prop := us.Pairwise (fun x y => keyC x < keyC y)
theorem uq_incr {ys : List Nat} (hB : ∀ i, i < ys.length → va ys i < B64) (ho : Ordd ys) : ∀ k, k ≤ ys.length → Incr (uq ys k)
  | 0, _ => List.Pairwise.nil
  | k + 1, hk => by
    have ih := uq_incr hB ho k (by omega)
    cases hq : kp ys k
    · rw [uq_no hq]; exact ih
    · rw [uq_yes hq]
      refine List.pairwise_append.2 ⟨ih, List.pairwise_singleton _ _, fun x hx y hy => ?_⟩
      obtain rfl := List.mem_singleton.1 hy
      obtain ⟨i, hi, rfl⟩ := uq_mem hx
      have h0 : 0 < k := by omega
      rw [kp_pos ys h0, Bool.not_eq_true', sameC_key (hB k (by omega)) (hB (k - 1) (by omega)), decide_eq_false_iff_not] at hq
      have h1 : keyC (va ys i) ≤ keyC (va ys (k - 1)) := ord_le ho (by omega) (by omega)
      have h2 : keyC (va ys (k - 1)) ≤ keyC (va ys k) := ord_le ho (by omega) (by omega)
      omega
/-- rising numbers with the same members are the same -/
theorem rising_eq : ∀ (xs ys : List Int), xs.Pairwise (· < ·) → ys.Pairwise (· < ·) → (∀ k, k ∈ xs ↔ k ∈ ys) → xs = ys
  | [], [], _, _, _ => rfl
  | [], y :: ys, _, _, h => by have := (h y).2 (List.mem_cons_self ..); simp at this
  | x :: xs, [], _, _, h => by have := (h x).1 (List.mem_cons_self ..); simp at this
  | x :: xs, y :: ys, hx, hy, h => by
    have hx' := List.pairwise_cons.1 hx
    have hy' := List.pairwise_cons.1 hy
    have e : x = y := by
      have h1 := (h x).1 (List.mem_cons_self ..)
      have h2 := (h y).2 (List.mem_cons_self ..)
      rcases List.mem_cons.1 h1 with e | e
      · exact e
      · rcases List.mem_cons.1 h2 with e2 | e2
        · exact e2.symm
        · have := hy'.1 _ e; have := hx'.1 _ e2; omega
    subst e
    rw [rising_eq xs ys hx'.2 hy'.2 (fun k => ?_)]
    constructor
    · intro hk
      have := hx'.1 _ hk
      rcases List.mem_cons.1 ((h k).1 (List.mem_cons_of_mem _ hk)) with e | e
      · omega
      · exact e
    · intro hk
      have := hy'.1 _ hk
      rcases List.mem_cons.1 ((h k).2 (List.mem_cons_of_mem _ hk)) with e | e
      · omega
      · exact e
/-- the points xs, each kept once, in order -/
def Uniq (xs us : List Nat) : Prop := Incr us ∧ (∀ k, (∃ x ∈ us, keyC x = k) ↔ (∃ x ∈ xs, keyC x = k)) ∧ (∀ x ∈ us, x < B64)
theorem va_mem {ys : List Nat} {i : Nat} (h : i < ys.length) : va ys i ∈ ys := by
  have e : va ys i = ys[i] := by simp [va, List.getD, h]
  rw [e]; exact List.getElem_mem _
theorem mem_va {ys : List Nat} {x : Nat} (h : x ∈ ys) : ∃ i, i < ys.length ∧ x = va ys i := by
  obtain ⟨i, hi, e⟩ := List.getElem_of_mem h
  exact ⟨i, hi, by rw [← e]; simp [va, List.getD, hi]⟩
theorem uniq_of {xs ys : List Nat} (hp : ys.Perm xs) (ho : Ordd ys) (hB : ∀ x ∈ xs, x < B64) : Uniq xs (uq ys ys.length) := by
  have hB' : ∀ i, i < ys.length → va ys i < B64 := fun i hi => hB _ (hp.mem_iff.1 (va_mem hi))
  refine ⟨uq_incr hB' ho _ (Nat.le_refl _), fun k => ⟨?_, ?_⟩, ?_⟩
  · rintro ⟨x, hx, rfl⟩
    obtain ⟨i, hi, rfl⟩ := uq_mem hx
    exact ⟨_, hp.mem_iff.1 (va_mem hi), rfl⟩
  · rintro ⟨x, hx, rfl⟩
    obtain ⟨i, hi, rfl⟩ := mem_va (hp.mem_iff.2 hx)
    exact uq_has hB' _ (Nat.le_refl _) i hi
  · intro x hx
    obtain ⟨i, hi, rfl⟩ := uq_mem hx
    exact hB' i hi
theorem incr_keys {us : List Nat} (h : Incr us) : (us.map keyC).Pairwise (· < ·) := List.pairwise_map.2 h
theorem uniq_keys {xs us vs : List Nat} (h : Uniq xs us) (h' : Uniq xs vs) : us.map keyC = vs.map keyC := by
  refine rising_eq _ _ (incr_keys h.1) (incr_keys h'.1) (fun k => ?_)
  rw [List.mem_map, List.mem_map, h.2.1 k, h'.2.1 k]
theorem uniq_more {xs us vs : List Nat} (h : Uniq xs us) (h' : Uniq (us ++ xs) vs) : Uniq xs vs := by
  refine ⟨h'.1, fun k => (h'.2.1 k).trans ⟨?_, ?_⟩, h'.2.2⟩
  · rintro ⟨x, hx, rfl⟩
    rcases List.mem_append.1 hx with e | e
    · exact (h.2.1 _).1 ⟨x, e, rfl⟩
    · exact ⟨x, e, rfl⟩
  · rintro ⟨x, hx, e⟩
    exact ⟨x, List.mem_append.2 (.inr hx), e⟩
/-- like places: like lengths, and the same points -/
theorem keys_same {us vs : List Nat} (h : us.map keyC = vs.map keyC) (hu : ∀ x ∈ us, x < B64) (hv : ∀ x ∈ vs, x < B64) :
    vs.length = us.length ∧ ∀ i, i < us.length → sameC (va us i) (va vs i) = true := by
  have hl : vs.length = us.length := by have := congrArg List.length h; simpa using this.symm
  refine ⟨hl, fun i hi => ?_⟩
  rw [sameC_key (hu _ (va_mem hi)) (hv _ (va_mem (by omega))), decide_eq_true_iff]
  have h1 : (us.map keyC)[i]? = (vs.map keyC)[i]? := by rw [h]
  rw [List.getElem?_map, List.getElem?_map, va_get us i hi, va_get vs i (by omega)] at h1
  simpa using h1
theorem ord_same {xs us vs : List Nat} (h1 : us.Perm xs) (h2 : vs.Perm xs) (o1 : Ordd us) (o2 : Ordd vs) (hB : ∀ x ∈ xs, x < B64) :
    vs.length = us.length ∧ ∀ i, i < us.length → sameC (va us i) (va vs i) = true := by
  have hl : vs.length = us.length := by rw [h1.length_eq, h2.length_eq]
  refine ⟨hl, fun i hi => ?_⟩
  rw [sameC_key (hB _ (h1.mem_iff.1 (va_mem hi))) (hB _ (h2.mem_iff.1 (va_mem (by omega)))), decide_eq_true_iff]
  have q1 := ord_keys (h1.trans h2.symm) o1 o2 i hi
  have q2 := ord_keys (h2.trans h1.symm) o2 o1 i (by omega)
  omega
/-- how often a point is met among the first k -/
def met (us : List Nat) (x : Nat) : Nat → Nat
  | 0 => 0
  | k + 1 => met us x k + (if sameC (va us k) x then 1 else 0)
theorem met_le (us : List Nat) (x : Nat) : ∀ k, met us x k ≤ k
  | 0 => Nat.le_refl _
  | k + 1 => by have := met_le us x k; show met us x k + _ ≤ _; split <;> omega
theorem met_one {xs us : List Nat} (h : Uniq xs us) {x : Nat} (hx : x ∈ xs) (hB : x < B64) : met us x us.length = 1 := by
  obtain ⟨u, hu, hk⟩ := (h.2.1 (keyC x)).2 ⟨x, hx, rfl⟩
  obtain ⟨i0, hi0, rfl⟩ := mem_va hu
  have hP := List.pairwise_iff_getElem.1 h.1
  have hlt : ∀ i j, i < j → j < us.length → keyC (va us i) < keyC (va us j) := fun i j h1 h2 => by
    have := hP i j (by omega) h2 h1
    have e1 : va us i = us[i] := by simp [va, List.getD, show i < us.length by omega]
    have e2 : va us j = us[j] := by simp [va, List.getD, h2]
    rw [e1, e2]; exact this
  have key : ∀ k, k ≤ us.length → met us x k = if i0 < k then 1 else 0 := by
    intro k
    induction k with
    | zero => intro _; rfl
    | succ k ih =>
      intro hk'
      have := ih (by omega)
      show met us x k + _ = _
      rw [this, sameC_key (h.2.2 _ (va_mem (by omega))) hB]
      by_cases e : k = i0
      · subst e
        rw [if_neg (by omega), if_pos (by simpa using hk), if_pos (by omega)]
      · have hne : keyC (va us k) ≠ keyC x := by
          rw [← hk]
          by_cases e2 : k < i0
          · have := hlt k i0 e2 hi0; omega
          · have := hlt i0 k (by omega) (by omega); omega
        rw [if_neg (show ¬ (decide (keyC (va us k) = keyC x) = true) by simpa using hne)]
        by_cases e2 : i0 < k
        · rw [if_pos e2, if_pos (by omega)]
        · rw [if_neg e2, if_neg (by omega)]
  rw [key _ (Nat.le_refl _), if_pos hi0]
end Go.Proofs.Ytbceiphiopdegaa.Pt
