/-
  Plain laws for SortReals: Go's merge of two ranges in order; no program in sight.
-/
import Derived.Test.YtbceiphiopdegaaRot
set_option linter.unusedSimpArgs false
set_option linter.unusedVariables false
namespace Go.Proofs.Ytbceiphiopdegaa

def ky (xs : List Nat) (k : Nat) : Int := keyR (va xs k)
theorem Srt.le {a b : Nat} {xs : List Nat} (h : Srt a b xs) {u v : Nat} (h1 : a ≤ u) (h2 : u ≤ v) (h3 : v < b) : ky xs u ≤ ky xs v := by
  by_cases e : u = v
  · subst e; exact Int.le_refl _
  · exact h u v h1 (by omega) h3
/-! ### one element before the rest -/
/-- the first element, moved up to place k -/
def Up (a k : Nat) (xs ys : List Nat) : Prop := ∀ u, (a ≤ u → u < k → va ys u = va xs (u + 1)) ∧ (u = k → va ys u = va xs a) ∧ (u < a ∨ k < u → va ys u = va xs u)
theorem Up.start (a : Nat) (xs : List Nat) : Up a a xs xs := fun u => ⟨fun _ _ => by omega, fun h => by rw [h], fun _ => rfl⟩
theorem Up.step {a k : Nat} {xs ys : List Nat} (h : Up a k xs ys) (hk : a ≤ k) (hN : k + 1 < ys.length) : Up a (k + 1) xs (swp ys k (k + 1)) := fun u => by
  have e1 : va (swp ys k (k + 1)) k = va ys (k + 1) := swp_i _ _ _ (by omega) (by omega)
  have e2 : va (swp ys k (k + 1)) (k + 1) = va ys k := swp_j _ _ _ (by omega)
  have e3 : ∀ u, u ≠ k → u ≠ k + 1 → va (swp ys k (k + 1)) u = va ys u := fun u => swp_k _ _ _ u
  refine ⟨fun h1 h2 => ?_, fun h1 => ?_, fun h1 => ?_⟩
  · by_cases e : u = k
    · subst e; rw [e1, (h (u + 1)).2.2 (.inr (by omega))]
    · rw [e3 u e (by omega)]; exact (h u).1 h1 (by omega)
  · subst h1; rw [e2]; exact (h k).2.1 rfl
  · rw [e3 u (by omega) (by omega)]; exact (h u).2.2 (by omega)
theorem Up.sorted {a i b : Nat} {xs ys : List Nat} (h : Up a (i - 1) xs ys) (hs : Srt (a + 1) b xs) (hi : a + 1 ≤ i) (hib : i ≤ b) (h1 : ∀ k, a + 1 ≤ k → k < i → ky xs k < ky xs a) (h2 : ∀ k, i ≤ k → k < b → ky xs a ≤ ky xs k) : Srt a b ys := fun u v k1 k2 k3 => by
  show keyR (va ys u) ≤ keyR (va ys v)
  by_cases c1 : u < i - 1
  · rw [(h u).1 k1 c1]
    by_cases c2 : v < i - 1
    · rw [(h v).1 (by omega) c2]; exact hs.le (by omega) (by omega) (by omega)
    · by_cases c3 : v = i - 1
      · rw [(h v).2.1 c3]; exact Int.le_of_lt (h1 (u + 1) (by omega) (by omega))
      · rw [(h v).2.2 (.inr (by omega))]; exact hs.le (by omega) (by omega) (by omega)
  · by_cases c2 : u = i - 1
    · rw [(h u).2.1 c2, (h v).2.2 (.inr (by omega))]; exact h2 v (by omega) k3
    · rw [(h u).2.2 (.inr (by omega)), (h v).2.2 (.inr (by omega))]; exact hs.le (by omega) (by omega) k3
/-! ### one element behind the rest -/
/-- the last element m, moved down to place k -/
def Dn (m k : Nat) (xs ys : List Nat) : Prop := ∀ u, (k < u → u ≤ m → va ys u = va xs (u - 1)) ∧ (u = k → va ys u = va xs m) ∧ (u < k ∨ m < u → va ys u = va xs u)
theorem Dn.start (m : Nat) (xs : List Nat) : Dn m m xs xs := fun u => ⟨fun _ _ => by omega, fun h => by rw [h], fun _ => rfl⟩
theorem Dn.step {m k : Nat} {xs ys : List Nat} (h : Dn m k xs ys) (hk : 0 < k) (hkm : k ≤ m) (hN : m < ys.length) : Dn m (k - 1) xs (swp ys k (k - 1)) := fun u => by
  have e1 : va (swp ys k (k - 1)) k = va ys (k - 1) := swp_i _ _ _ (by omega) (by omega)
  have e2 : va (swp ys k (k - 1)) (k - 1) = va ys k := swp_j _ _ _ (by omega)
  have e3 : ∀ u, u ≠ k → u ≠ k - 1 → va (swp ys k (k - 1)) u = va ys u := fun u => swp_k _ _ _ u
  refine ⟨fun h1 h2 => ?_, fun h1 => ?_, fun h1 => ?_⟩
  · by_cases e : u = k
    · subst e; rw [e1, (h (u - 1)).2.2 (.inl (by omega))]
    · rw [e3 u e (by omega)]; exact (h u).1 (by omega) h2
  · subst h1; rw [e2]; exact (h k).2.1 rfl
  · rw [e3 u (by omega) (by omega)]; exact (h u).2.2 (by omega)
theorem Dn.sorted {a i m : Nat} {xs ys : List Nat} (h : Dn m i xs ys) (hs : Srt a m xs) (hi : a ≤ i) (him : i ≤ m) (h1 : ∀ k, a ≤ k → k < i → ky xs k ≤ ky xs m) (h2 : ∀ k, i ≤ k → k < m → ky xs m < ky xs k) : Srt a (m + 1) ys := fun u v k1 k2 k3 => by
  show keyR (va ys u) ≤ keyR (va ys v)
  by_cases c1 : u < i
  · rw [(h u).2.2 (.inl c1)]
    by_cases c2 : v < i
    · rw [(h v).2.2 (.inl c2)]; exact hs.le (by omega) (by omega) (by omega)
    · by_cases c3 : v = i
      · rw [(h v).2.1 c3]; exact h1 u k1 c1
      · rw [(h v).1 (by omega) (by omega)]; exact hs.le (by omega) (by omega) (by omega)
  · by_cases c2 : u = i
    · rw [(h u).2.1 c2, (h v).1 (by omega) (by omega)]; exact Int.le_of_lt (h2 (v - 1) (by omega) (by omega))
    · rw [(h u).1 (by omega) (by omega), (h v).1 (by omega) (by omega)]; exact hs.le (by omega) (by omega) (by omega)
/-! ### the symmetric search -/
def SLo (a m b mid lo hi : Nat) : Prop := (mid < m ∧ lo = mid + m - b ∧ hi = mid) ∨ (m ≤ mid ∧ lo = a ∧ hi = m)
theorem SLo.range {a m b mid lo hi c : Nat} (h : SLo a m b mid lo hi) (hmid : mid = (a + b) / 2) (h1 : a < m) (h2 : m < b) (hc : lo ≤ c) (hc2 : c < hi) : a ≤ c ∧ c < m ∧ m ≤ mid + m - 1 - c ∧ mid + m - 1 - c < b ∧ c ≤ mid + m - 1 := by
  rcases h with ⟨h3, rfl, rfl⟩ | ⟨h3, rfl, rfl⟩ <;> omega
theorem SLo.lohi {a m b mid lo hi : Nat} (h : SLo a m b mid lo hi) (hmid : mid = (a + b) / 2) (h1 : a < m) (h2 : m < b) : lo ≤ hi ∧ a ≤ lo ∧ hi ≤ m := by
  rcases h with ⟨h3, rfl, rfl⟩ | ⟨h3, rfl, rfl⟩ <;> omega
def Sea (p lo hi s r : Nat) (xs : List Nat) : Prop := (∀ c, lo ≤ c → c < s → ky xs c ≤ ky xs (p - c)) ∧ (∀ c, r ≤ c → c < hi → ky xs (p - c) < ky xs c)
theorem Sea.up {a m b mid lo hi s r c : Nat} {xs : List Nat} (h : Sea (mid + m - 1) lo hi s r xs) (hL : SLo a m b mid lo hi) (hmid : mid = (a + b) / 2) (h1 : a < m) (h2 : m < b) (hA : Srt a m xs) (hB : Srt m b xs) (hs : lo ≤ s) (hsc : s ≤ c) (hc : c < hi)
    (hle : ¬ ky xs (mid + m - 1 - c) < ky xs c) : Sea (mid + m - 1) lo hi (c + 1) r xs := by
  refine ⟨fun d d1 d2 => ?_, h.2⟩
  have rc := hL.range hmid h1 h2 (by omega : lo ≤ c) hc
  have rd := hL.range hmid h1 h2 d1 (by omega : d < hi)
  have e1 := hA.le rd.1 (by omega : d ≤ c) rc.2.1
  have e2 := hB.le rc.2.2.1 (by omega : mid + m - 1 - c ≤ mid + m - 1 - d) rd.2.2.2.1
  omega
theorem Sea.down {a m b mid lo hi s r c : Nat} {xs : List Nat} (h : Sea (mid + m - 1) lo hi s r xs) (hL : SLo a m b mid lo hi) (hmid : mid = (a + b) / 2) (h1 : a < m) (h2 : m < b) (hA : Srt a m xs) (hB : Srt m b xs) (hs : lo ≤ c) (hc : c < hi)
    (hlt : ky xs (mid + m - 1 - c) < ky xs c) : Sea (mid + m - 1) lo hi s c xs := by
  refine ⟨h.1, fun d d1 d2 => ?_⟩
  have rc := hL.range hmid h1 h2 hs hc
  have rd := hL.range hmid h1 h2 (by omega : lo ≤ d) d2
  have e1 := hA.le rc.1 (by omega : c ≤ d) rd.2.1
  have e2 := hB.le rd.2.2.1 (by omega : mid + m - 1 - d ≤ mid + m - 1 - c) rc.2.2.2.1
  omega
/-- behind the rotation -/
def Rtd (s m e : Nat) (xs zs : List Nat) : Prop := ∀ k, (s ≤ k → k < e → va zs k = rotF s m e xs k) ∧ (¬ (s ≤ k ∧ k < e) → va zs k = va xs k)
theorem Rtd.still {s m e : Nat} (xs : List Nat) (h : s = m ∨ e = m) (hs : s ≤ m) (he : m ≤ e) : Rtd s m e xs xs := fun k => ⟨fun h1 h2 => by
  unfold rotF
  rcases h with rfl | rfl
  · rw [if_pos (by omega)]; congr 1; omega
  · rw [if_neg (by omega)]; congr 1; omega, fun _ => rfl⟩
def Cut (a m b mid s e : Nat) : Prop := a ≤ s ∧ s ≤ m ∧ m ≤ e ∧ e ≤ b ∧ s + (e - m) = mid ∧ e + s = mid + m
theorem cut_of {a m b mid lo hi s : Nat} (hL : SLo a m b mid lo hi) (hmid : mid = (a + b) / 2) (h1 : a < m) (h2 : m < b) (hs : lo ≤ s) (hs2 : s ≤ hi) : Cut a m b mid s (mid + m - s) := by
  have := hL.lohi hmid h1 h2
  unfold Cut
  rcases hL with ⟨h3, rfl, rfl⟩ | ⟨h3, rfl, rfl⟩ <;> omega
theorem Rtd.left {a m b mid s e : Nat} {xs zs : List Nat} (hC : Cut a m b mid s e) (h : Rtd s m e xs zs) (hB : Srt m b xs) : Srt s mid zs := fun u v k1 k2 k3 => by
  obtain ⟨c1, c2, c3, c4, c5, c6⟩ := hC
  rw [(h u).1 k1 (by omega), (h v).1 (by omega) (by omega)]
  unfold rotF
  rw [if_pos (by omega), if_pos (by omega)]
  exact hB.le (by omega) (by omega) (by omega)
theorem Rtd.right {a m b mid s e : Nat} {xs zs : List Nat} (hC : Cut a m b mid s e) (h : Rtd s m e xs zs) (hA : Srt a m xs) : Srt mid e zs := fun u v k1 k2 k3 => by
  obtain ⟨c1, c2, c3, c4, c5, c6⟩ := hC
  rw [(h u).1 (by omega) (by omega), (h v).1 (by omega) (by omega)]
  unfold rotF
  rw [if_neg (by omega), if_neg (by omega)]
  exact hA.le (by omega) (by omega) (by omega)
theorem Rtd.sep {a m b mid lo hi s : Nat} {xs zs : List Nat} (hL : SLo a m b mid lo hi) (hmid : mid = (a + b) / 2) (h1 : a < m) (h2 : m < b) (hs : lo ≤ s) (hs2 : s ≤ hi) (hS : Sea (mid + m - 1) lo hi s s xs) (h : Rtd s m (mid + m - s) xs zs) (hA : Srt a m xs) (hB : Srt m b xs) :
    ∀ u v, a ≤ u → u < mid → mid ≤ v → v < b → ky zs u ≤ ky zs v := fun u v k1 k2 k3 k4 => by
  obtain ⟨c1, c2, c3, c4, c5, c6⟩ := cut_of hL hmid h1 h2 hs hs2
  have hll := hL.lohi hmid h1 h2
  -- what stands left of the middle, and right of it
  have lu : (u < s ∧ va zs u = va xs u) ∨ (s ≤ u ∧ va zs u = va xs (u + (m - s))) := by
    by_cases c : u < s
    · exact .inl ⟨c, (h u).2 (by omega)⟩
    · refine .inr ⟨by omega, ?_⟩
      rw [(h u).1 (by omega) (by omega)]; unfold rotF; rw [if_pos (by omega)]
  have rv : (v < mid + m - s ∧ va zs v = va xs (v - (mid + m - s - m))) ∨ (mid + m - s ≤ v ∧ va zs v = va xs v) := by
    by_cases c : v < mid + m - s
    · refine .inl ⟨c, ?_⟩
      rw [(h v).1 (by omega) c]; unfold rotF; rw [if_neg (by omega)]
    · exact .inr ⟨by omega, (h v).2 (by omega)⟩
  have kz : ∀ k j, va zs k = va xs j → ky zs k = ky xs j := fun k j e => by unfold ky; rw [e]
  rcases lu with ⟨u1, u2⟩ | ⟨u1, u2⟩ <;> rcases rv with ⟨v1, v2⟩ | ⟨v1, v2⟩ <;> rw [kz _ _ u2, kz _ _ v2]
  · exact hA.le k1 (by omega) (by omega)
  · by_cases c : lo < s
    · have e := hS.1 (s - 1) (by omega) (by omega)
      rw [show mid + m - 1 - (s - 1) = mid + m - s by omega] at e
      have e1 := hA.le k1 (by omega : u ≤ s - 1) (by omega)
      have e2 := hB.le c3 v1 k4
      omega
    · exfalso
      rcases hL with ⟨h3, h4, h5⟩ | ⟨h3, h4, h5⟩ <;> omega
  · by_cases c : s < hi
    · have e := hS.2 s (Nat.le_refl _) c
      rw [show mid + m - 1 - s = mid + m - s - 1 by omega] at e
      have e1 := hB.le (by omega : m ≤ u + (m - s)) (by omega : u + (m - s) ≤ mid + m - s - 1) (by omega)
      have e2 := hA.le c1 (by omega : s ≤ v - (mid + m - s - m)) (by omega)
      omega
    · exfalso
      rcases hL with ⟨h3, h4, h5⟩ | ⟨h3, h4, h5⟩ <;> omega
  · exact hB.le (by omega) (by omega) k4
/-- the two halves in order, the left below the right: all in order -/
theorem halves {a mid b : Nat} {zs ws vs : List Nat} (hsep : ∀ u v, a ≤ u → u < mid → mid ≤ v → v < b → ky zs u ≤ ky zs v) (h1 : SwR a mid zs ws) (h2 : Srt a mid ws) (h3 : SwR mid b ws vs) (h4 : Srt mid b vs) : Srt a b vs := by
  have s1 : ∀ u v, a ≤ u → u < mid → mid ≤ v → v < b → ky ws u ≤ ky ws v := fun u v k1 k2 k3 k4 => by
    have e : va ws v = va zs v := h1.2.2.1 v (by omega)
    have := h1.2.2.2 (fun x => keyR x ≤ ky zs v) (fun k q1 q2 => hsep k v q1 q2 k3 k4) u k1 k2
    show keyR (va ws u) ≤ keyR (va ws v)
    rw [e]; exact this
  have s2 : ∀ u v, a ≤ u → u < mid → mid ≤ v → v < b → ky vs u ≤ ky vs v := fun u v k1 k2 k3 k4 => by
    have e : va vs u = va ws u := h3.2.2.1 u (by omega)
    have := h3.2.2.2 (fun x => ky ws u ≤ keyR x) (fun k q1 q2 => s1 u k k1 k2 q1 q2) v k3 k4
    show keyR (va vs u) ≤ keyR (va vs v)
    rw [e]; exact this
  intro u v k1 k2 k3
  by_cases c1 : v < mid
  · rw [show va vs u = va ws u from h3.2.2.1 u (by omega), show va vs v = va ws v from h3.2.2.1 v (by omega)]
    exact h2 u v k1 k2 c1
  · by_cases c2 : u < mid
    · exact s2 u v k1 c2 (by omega) k3
    · exact h4 u v (by omega) k2 k3
end Go.Proofs.Ytbceiphiopdegaa
