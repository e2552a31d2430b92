/-
  Walks for FromKey: a point's key, both sides.
-/
import Derived.Test.YtjhmamkbdcfcoaaFrame
import Derived.Test.YtjhmamkbdcfcoaaShelf
import Derived.Test.YtjhmamkbdcfcoaaCplx
import Derived.Lib.EndianMore
import Derived.Lib.Hide
set_option linter.unusedSimpArgs false
set_option linter.unusedVariables false
namespace Go.Proofs.Ytjhmamkbdcfcoaa
open Go.RowKit

/-- a word that a key may hold: every NaN is the one -/
def canonB (a : Nat) : Nat := if nanB a then 2143289344 else a
abbrev k8 (a b c d e f g h : UInt8) : Value := .agg #[.int .u8 (a.toNat : Int), .int .u8 (b.toNat : Int), .int .u8 (c.toNat : Int), .int .u8 (d.toNat : Int), .int .u8 (e.toNat : Int), .int .u8 (f.toNat : Int), .int .u8 (g.toNat : Int), .int .u8 (h.toNat : Int)]

set_option maxHeartbeats 400000 in
theorem implBitsOf (a : Nat) (w : World) :
    Calls Try.prog 51 #[.float .f32 a] w fun e w' => e = .returned (.int .u32 (canonB a)) ∧ w = w' := by
  have hb := bits32
  cases h : nanB a
  · have h2 : canonB a = a := by unfold canonB; rw [h]; rfl
    rw [h2]; clear h2
    go_enter Try.func51, Try.ntmps51
    go_wp2_with (go_at_call 54; refine (implIsNaN a _).mono ?_; rintro e w' ⟨rfl, rfl⟩)
    go_ret
    exact ⟨rfl, rfl⟩
  · have h2 : canonB a = 2143289344 := by unfold canonB; rw [h]; rfl
    rw [h2]; clear h2
    go_enter Try.func51, Try.ntmps51
    go_wp2_with (go_at_call 54; refine (implIsNaN a _).mono ?_; rintro e w' ⟨rfl, rfl⟩)
    go_ret
    exact ⟨rfl, rfl⟩
set_option maxHeartbeats 400000 in
theorem specBits (a : Nat) (w : World) :
    Calls Try.prog 53 #[.float .f32 a] w fun e w' => e = .returned (.int .u32 (canonB a)) ∧ w = w' := by
  have hb := bits32
  cases h : nanB a
  · have h2 : canonB a = a := by unfold canonB; rw [h]; rfl
    rw [h2]; clear h2
    go_enter Try.func53, Try.ntmps53
    go_wp2_with (go_at_call 56; refine (specIsNaN a _).mono ?_; rintro e w' ⟨rfl, rfl⟩)
    go_ret
    exact ⟨rfl, rfl⟩
  · have h2 : canonB a = 2143289344 := by unfold canonB; rw [h]; rfl
    rw [h2]; clear h2
    go_enter Try.func53, Try.ntmps53
    go_wp2_with (go_at_call 56; refine (specIsNaN a _).mono ?_; rintro e w' ⟨rfl, rfl⟩)
    go_ret
    exact ⟨rfl, rfl⟩
set_option maxHeartbeats 4000000 in
theorem toKey (a b c d e f g h : UInt8) (w : World) :
    Calls Try.prog 20 #[k8 a b c d e f g h] w fun x w' => x = .returned (k8 a b c d e f g h) ∧ Kept w w' := by
  go_enter Try.func20, Try.ntmps20
  go_wp2
  refine wp_loop_rounds 9 ?_; rw [rounds_succ]
  go_wp2
  iterate 7 (rw [rounds_succ]; go_wp2)
  rw [rounds_succ]
  go_wp2
  refine bodyPost_ret (v := k8 a b c d e f g h) (by simp [results, Try.results20, go_sem]) rfl ⟨rfl, by repeat (first | exact Kept.refl _ | apply Kept.alloc)⟩
@[go_sem] theorem eq_k8 (a b c d e f g h a' b' c' d' e' f' g' h' : Int) (w : World) :
    (Op.equalIn 10000 39 (.agg #[.int .u8 a, .int .u8 b, .int .u8 c, .int .u8 d, .int .u8 e, .int .u8 f, .int .u8 g, .int .u8 h]) (.agg #[.int .u8 a', .int .u8 b', .int .u8 c', .int .u8 d', .int .u8 e', .int .u8 f', .int .u8 g', .int .u8 h'])).run Try.prog w = .ok (a == a' && (b == b' && (c == c' && (d == d' && (e == e' && (f == f' && (g == g' && h == h'))))))) w := by
  have u3 := Try.underlying5
  have a3 := Try.isAgg5
  have z3 := Try.sizeOf5
  rw [show (10000 : Nat) = 9999 + 1 from rfl, Op.equalIn]
  simp only [Sem.run_bind, run_underlying Try.underlying39, Result.andThen_ok]
  simp only [Std.Legacy.Range.forIn_eq_forIn_range', Std.Legacy.Range.size, Nat.sub_zero, Nat.add_sub_cancel, Nat.div_one, List.range'_succ, List.range'_zero, List.forIn_cons, List.forIn_nil]
  go_simp
  by_cases h1 : a = a'
  by_cases h2 : b = b'
  by_cases h3 : c = c'
  by_cases h4 : d = d'
  by_cases h5 : e = e'
  by_cases h6 : f = f'
  by_cases h7 : g = g'
  by_cases h8 : h = h'
  all_goals simp [*]
abbrev k8i (a b c d e f g h : Int) : Value := .agg #[.int .u8 a, .int .u8 b, .int .u8 c, .int .u8 d, .int .u8 e, .int .u8 f, .int .u8 g, .int .u8 h]
abbrev keyV (x y : Nat) : Value := k8i ((canonB x : Int) / 16777216 % 256) ((canonB x : Int) / 65536 % 256) ((canonB x : Int) / 256 % 256) ((canonB x : Int) % 256) ((canonB y : Int) / 16777216 % 256) ((canonB y : Int) / 65536 % 256) ((canonB y : Int) / 256 % 256) ((canonB y : Int) % 256)
set_option maxHeartbeats 4000000 in
theorem specKeyOf (x y : Nat) (w : World) :
    Calls Try.prog 49 #[.complex .f32 x y] w fun e w' => e = .returned (keyV x y) ∧ Kept w w' := by
  go_enter Try.func49, Try.ntmps49
  go_wp2_with (go_at_call 53; refine (specBits _ _).mono ?_; rintro e w' ⟨rfl, rfl⟩)
  refine wp_loop_rounds 5 ?_; rw [rounds_succ]
  go_wp2
  iterate 3 (rw [rounds_succ]; go_wp2)
  rw [rounds_succ]
  go_wp2
  refine bodyPost_ret (v := keyV x y) (by simp [results, Try.results49, go_sem]) rfl ⟨rfl, by repeat (first | exact Kept.refl _ | apply Kept.alloc)⟩
theorem or_step (n : Nat) (hn : n < 16777216) (a : UInt8) : bits .or .u32 ((n : Int) * 256 % 4294967296) ((a.toNat : Int) % 4294967296) = ((n * 256 + a.toNat : Nat) : Int) := by
  have h := a.toNat_lt
  rw [show (n : Int) * 256 % 4294967296 = ((n * 256 : Nat) : Int) by omega, show (a.toNat : Int) % 4294967296 = ((a.toNat : Nat) : Int) by omega, u32_or_nat _ _ (by omega) (by omega)]
  rw [nat_join 8 (n * 256) a.toNat (by omega) (by omega)]
theorem or_zero (a : UInt8) : bits .or .u32 0 ((a.toNat : Int) % 4294967296) = (a.toNat : Int) := by
  have h := or_step 0 (by decide) a
  simpa using h
/-- a key that is the key of the point that it spells -/
def isKey (x y : Nat) (a b c d e f g h : UInt8) : Bool := ((canonB x : Int) / 16777216 % 256 == (a.toNat : Int) && ((canonB x : Int) / 65536 % 256 == (b.toNat : Int) && ((canonB x : Int) / 256 % 256 == (c.toNat : Int) && ((canonB x : Int) % 256 == (d.toNat : Int) && ((canonB y : Int) / 16777216 % 256 == (e.toNat : Int) && ((canonB y : Int) / 65536 % 256 == (f.toNat : Int) && ((canonB y : Int) / 256 % 256 == (g.toNat : Int) && (canonB y : Int) % 256 == (h.toNat : Int))))))))
def HasKey (w : World) (p : Nat) (a b c d e f g h : UInt8) : Prop :=
  w.cell? ⟨p, 0, none⟩ = some (.int .u8 (a.toNat : Int)) ∧ w.cell? ⟨p, 1, none⟩ = some (.int .u8 (b.toNat : Int)) ∧ w.cell? ⟨p, 2, none⟩ = some (.int .u8 (c.toNat : Int)) ∧ w.cell? ⟨p, 3, none⟩ = some (.int .u8 (d.toNat : Int)) ∧ w.cell? ⟨p, 4, none⟩ = some (.int .u8 (e.toNat : Int)) ∧ w.cell? ⟨p, 5, none⟩ = some (.int .u8 (f.toNat : Int)) ∧ w.cell? ⟨p, 6, none⟩ = some (.int .u8 (g.toNat : Int)) ∧ w.cell? ⟨p, 7, none⟩ = some (.int .u8 (h.toNat : Int))
theorem HasKey.kept {w w' : World} {p : Nat} {a b c d e f g h : UInt8} (H : HasKey w p a b c d e f g h) (hk : Kept w w') : HasKey w' p a b c d e f g h := by
  obtain ⟨l0, l1, l2, l3, l4, l5, l6, l7⟩ := H
  exact ⟨hk.cell l0, hk.cell l1, hk.cell l2, hk.cell l3, hk.cell l4, hk.cell l5, hk.cell l6, hk.cell l7⟩
theorem hasKey_drew (w : World) (a b c d e f g h : UInt8) : HasKey (w.alloc (.cells #[.int .u8 (a.toNat : Int), .int .u8 (b.toNat : Int), .int .u8 (c.toNat : Int), .int .u8 (d.toNat : Int), .int .u8 (e.toNat : Int), .int .u8 (f.toNat : Int), .int .u8 (g.toNat : Int), .int .u8 (h.toNat : Int)] 39)).drew w.heap.size a b c d e f g h :=
  ⟨World.cell?_alloc_at _ _ _ _ rfl, World.cell?_alloc_at _ _ _ _ rfl, World.cell?_alloc_at _ _ _ _ rfl, World.cell?_alloc_at _ _ _ _ rfl, World.cell?_alloc_at _ _ _ _ rfl, World.cell?_alloc_at _ _ _ _ rfl, World.cell?_alloc_at _ _ _ _ rfl, World.cell?_alloc_at _ _ _ _ rfl⟩
abbrev word4 (a b c d : UInt8) : Nat := Lib.beNat [a, b, c, d]
set_option maxRecDepth 100000 in
set_option maxHeartbeats 4000000 in
theorem specFrom (a b c d e f g h : UInt8) (w : World) :
    Calls Try.prog 38 #[k8 a b c d e f g h] w fun x w' => x = .returned (.tuple #[.complex .f32 (word4 a b c d) (word4 e f g h), .bool (isKey (word4 a b c d) (word4 e f g h) a b c d e f g h)]) ∧ Kept w w' := by
  have hf := from32
  have ha := a.toNat_lt; have hb := b.toNat_lt; have hc := c.toNat_lt; have hd := d.toNat_lt
  have he := e.toNat_lt; have hf' := f.toNat_lt; have hg := g.toNat_lt; have hh := h.toNat_lt
  have o1 := or_zero a
  have o2 := or_zero e
  have o3 := or_step a.toNat (by omega) b
  have o4 := or_step e.toNat (by omega) f
  have o5 := or_step (a.toNat * 256 + b.toNat) (by omega) c
  have o6 := or_step (e.toNat * 256 + f.toNat) (by omega) g
  have o7 := or_step ((a.toNat * 256 + b.toNat) * 256 + c.toNat) (by omega) d
  have o8 := or_step ((e.toNat * 256 + f.toNat) * 256 + g.toNat) (by omega) h
  have x1 : ((a.toNat * 256 + b.toNat) * 256 + c.toNat) * 256 + d.toNat = word4 a b c d := by simp [word4, Lib.beNat, Lib.beFrom]
  have x2 : ((e.toNat * 256 + f.toNat) * 256 + g.toNat) * 256 + h.toNat = word4 e f g h := by simp [word4, Lib.beNat, Lib.beFrom]
  rw [x1] at o7
  rw [x2] at o8
  generalize word4 a b c d = X at *
  generalize word4 e f g h = Y at *
  generalize (a.toNat * 256 + b.toNat) * 256 + c.toNat = n1 at *
  generalize (e.toNat * 256 + f.toNat) * 256 + g.toNat = n2 at *
  generalize a.toNat * 256 + b.toNat = n3 at *
  generalize e.toNat * 256 + f.toNat = n4 at *
  clear ha hb hc hd he hf' hg hh x1 x2
  unfold isKey
  go_enter Try.func38, Try.ntmps38
  go_wp2
  refine wp_loop_rounds 5 ?_; rw [rounds_succ]
  go_wp2
  iterate 3 (rw [rounds_succ]; go_wp2)
  rw [rounds_succ]
  go_wp2
  go_region_with (
    go_at_call 49
    refine (specKeyOf _ _ _).mono ?_
    rintro _ w' ⟨rfl, hk⟩
    obtain ⟨l0, l1, l2, l3, l4, l5, l6, l7⟩ := (hasKey_drew w a b c d e f g h).kept hk)
  all_goals
    go_wp2
    go_ret2
    refine ⟨rfl, ?_⟩
    exact Kept.trans (Kept.drewN ((Kept.refl w).alloc _) 1) hk
set_option maxHeartbeats 4000000 in
theorem specFromKey (a b c d e f g h : UInt8) (w : World) :
    Calls Try.prog 19 #[k8 a b c d e f g h] w fun x w' => (isKey (word4 a b c d) (word4 e f g h) a b c d e f g h = true ∧ x = .returned (.tuple #[.complex .f32 (word4 a b c d) (word4 e f g h), .int .i64 0]) ∨ isKey (word4 a b c d) (word4 e f g h) a b c d e f g h = false ∧ x = .returned (.tuple #[.complex .f32 0 0, .int .i64 2])) ∧ Kept w w' := by
  have HS := Lib.hid (specFrom a b c d e f g h)
  generalize word4 a b c d = X at *
  generalize word4 e f g h = Y at *
  generalize isKey X Y a b c d e f g h = q at *
  cases q
  all_goals
    go_enter Try.func19, Try.ntmps19
    go_wp2_with (go_at_call 38; refine (HS.out _).mono ?_; rintro _ w' ⟨rfl, hk⟩)
    go_ret2
    first | exact ⟨.inl ⟨trivial, rfl⟩, Kept.trans ((Kept.refl w).alloc _) hk⟩ | exact ⟨.inr ⟨trivial, rfl⟩, Kept.trans ((Kept.refl w).alloc _) hk⟩
def Row8 (w : World) (p : Nat) (a b c d e f g h : Value) : Prop :=
  w.cell? ⟨p, 0, none⟩ = some a ∧ w.cell? ⟨p, 1, none⟩ = some b ∧ w.cell? ⟨p, 2, none⟩ = some c ∧ w.cell? ⟨p, 3, none⟩ = some d ∧ w.cell? ⟨p, 4, none⟩ = some e ∧ w.cell? ⟨p, 5, none⟩ = some f ∧ w.cell? ⟨p, 6, none⟩ = some g ∧ w.cell? ⟨p, 7, none⟩ = some h
theorem beCells (v : Nat) : Lib.byteCells (Lib.beBytes 4 v) = [.int .u8 ((v : Int) / 16777216 % 256), .int .u8 ((v : Int) / 65536 % 256), .int .u8 ((v : Int) / 256 % 256), .int .u8 ((v : Int) % 256)] := by
  simp only [Lib.beBytes, Lib.leBytes, Lib.byteCells, List.reverse_cons, List.reverse_nil, List.nil_append, List.cons_append, List.map_cons, List.map_nil, Lib.toUInt8_mod, Nat.div_div_eq_div_mul]
  simp
theorem put0 (p v : Nat) (hv : v < 4294967296) (x0 x1 x2 x3 x4 x5 x6 x7 : Value) (w : World) (H : Row8 w p x0 x1 x2 x3 x4 x5 x6 x7) (hz : ∀ j, w.frozen? ⟨p, j, none⟩ = false) :
    Calls Try.prog 50 #[.agg #[], .slice (some ⟨p, 0, none⟩) 4 8, .int .u32 v] w fun e w' => e = .returned (.tuple #[]) ∧ Row8 w' p (.int .u8 ((v : Int) / 16777216 % 256)) (.int .u8 ((v : Int) / 65536 % 256)) (.int .u8 ((v : Int) / 256 % 256)) (.int .u8 ((v : Int) % 256)) x4 x5 x6 x7 ∧ (∀ j, w'.frozen? ⟨p, j, none⟩ = false) ∧ Below p w w' := by
  obtain ⟨l0, l1, l2, l3, l4, l5, l6, l7⟩ := H
  have hp : p < w.heap.size := lt_of_cell l0
  refine (Try.binary_BE_PutUint32 p 0 4 8 v hv x0 x1 x2 x3 w (Nat.le_refl _) l0 l1 l2 l3 (hz _) (hz _) (hz _) (hz _)).mono ?_
  rintro _ _ ⟨rfl, rfl⟩
  rw [beCells]
  have A := fun j u (h : w.cell? ⟨p, j, none⟩ = some u) => cell?_alloc_old (.cells #[] 65) h
  have cs := World.cell?_setCells_in p [.int .u8 ((v : Int) / 16777216 % 256), .int .u8 ((v : Int) / 65536 % 256), .int .u8 ((v : Int) / 256 % 256), .int .u8 ((v : Int) % 256)] 0 (w.alloc (.cells #[] 65)) (fun j hj => by
    have : j = 0 ∨ j = 1 ∨ j = 2 ∨ j = 3 := by simp at hj; omega
    rcases this with rfl | rfl | rfl | rfl
    · rw [A 0 _ l0]; rfl
    · rw [A 1 _ l1]; rfl
    · rw [A 2 _ l2]; rfl
    · rw [A 3 _ l3]; rfl)
  have co := fun j (hj : 4 ≤ j) u (h : w.cell? ⟨p, j, none⟩ = some u) => (World.cell?_setCells_out p [.int .u8 ((v : Int) / 16777216 % 256), .int .u8 ((v : Int) / 65536 % 256), .int .u8 ((v : Int) / 256 % 256), .int .u8 ((v : Int) % 256)] 0 (w.alloc (.cells #[] 65)) ⟨p, j, none⟩ (fun _ _ => .inr (by simpa using hj))).trans (A j u h)
  refine ⟨rfl, ⟨cs 0 (by simp), cs 1 (by simp), cs 2 (by simp), cs 3 (by simp), co 4 (by decide) _ l4, co 5 (by decide) _ l5, co 6 (by decide) _ l6, co 7 (by decide) _ l7⟩, fun j => ?_, ?_⟩
  · rw [World.frozen?_setCells, World.frozen?_alloc_past _ _ _ hp, hz]
  · exact ((Below.refl p w).alloc (Nat.le_of_lt hp) _).trans (Lib.below_setCells_w (Nat.le_refl _) _ _ _)
theorem put4 (p v : Nat) (hv : v < 4294967296) (x0 x1 x2 x3 x4 x5 x6 x7 : Value) (w : World) (H : Row8 w p x0 x1 x2 x3 x4 x5 x6 x7) (hz : ∀ j, w.frozen? ⟨p, j, none⟩ = false) :
    Calls Try.prog 50 #[.agg #[], .slice (some ⟨p, 4, none⟩) 4 4, .int .u32 v] w fun e w' => e = .returned (.tuple #[]) ∧ Row8 w' p x0 x1 x2 x3 (.int .u8 ((v : Int) / 16777216 % 256)) (.int .u8 ((v : Int) / 65536 % 256)) (.int .u8 ((v : Int) / 256 % 256)) (.int .u8 ((v : Int) % 256)) ∧ (∀ j, w'.frozen? ⟨p, j, none⟩ = false) ∧ Below p w w' := by
  obtain ⟨l0, l1, l2, l3, l4, l5, l6, l7⟩ := H
  have hp : p < w.heap.size := lt_of_cell l0
  refine (Try.binary_BE_PutUint32 p 4 4 4 v hv x4 x5 x6 x7 w (Nat.le_refl _) l4 l5 l6 l7 (hz _) (hz _) (hz _) (hz _)).mono ?_
  rintro _ _ ⟨rfl, rfl⟩
  rw [beCells]
  have A := fun j u (h : w.cell? ⟨p, j, none⟩ = some u) => cell?_alloc_old (.cells #[] 65) h
  have cs := World.cell?_setCells_in p [.int .u8 ((v : Int) / 16777216 % 256), .int .u8 ((v : Int) / 65536 % 256), .int .u8 ((v : Int) / 256 % 256), .int .u8 ((v : Int) % 256)] 4 (w.alloc (.cells #[] 65)) (fun j hj => by
    have : j = 0 ∨ j = 1 ∨ j = 2 ∨ j = 3 := by simp at hj; omega
    rcases this with rfl | rfl | rfl | rfl
    · rw [A (4 + 0) _ l4]; rfl
    · rw [A (4 + 1) _ l5]; rfl
    · rw [A (4 + 2) _ l6]; rfl
    · rw [A (4 + 3) _ l7]; rfl)
  have co := fun j (hj : j < 4) u (h : w.cell? ⟨p, j, none⟩ = some u) => (World.cell?_setCells_out p [.int .u8 ((v : Int) / 16777216 % 256), .int .u8 ((v : Int) / 65536 % 256), .int .u8 ((v : Int) / 256 % 256), .int .u8 ((v : Int) % 256)] 4 (w.alloc (.cells #[] 65)) ⟨p, j, none⟩ (fun _ _ => .inl hj)).trans (A j u h)
  refine ⟨rfl, ⟨co 0 (by decide) _ l0, co 1 (by decide) _ l1, co 2 (by decide) _ l2, co 3 (by decide) _ l3, cs 0 (by simp), cs 1 (by simp), cs 2 (by simp), cs 3 (by simp)⟩, fun j => ?_, ?_⟩
  · rw [World.frozen?_setCells, World.frozen?_alloc_past _ _ _ hp, hz]
  · exact ((Below.refl p w).alloc (Nat.le_of_lt hp) _).trans (Lib.below_setCells_w (Nat.le_refl _) _ _ _)
theorem row8_new (w : World) (o : Obj) (t : TypeId) (a b c d e f g h : Value) : Row8 ((w.alloc o).alloc (.cells #[a, b, c, d, e, f, g, h] t)).drew (w.heap.size + 1) a b c d e f g h := by
  have hn : w.heap.size + 1 = (w.alloc o).heap.size := by simp
  exact ⟨World.cell?_alloc_at _ _ _ _ hn, World.cell?_alloc_at _ _ _ _ hn, World.cell?_alloc_at _ _ _ _ hn, World.cell?_alloc_at _ _ _ _ hn, World.cell?_alloc_at _ _ _ _ hn, World.cell?_alloc_at _ _ _ _ hn, World.cell?_alloc_at _ _ _ _ hn, World.cell?_alloc_at _ _ _ _ hn⟩
theorem free8_new (w : World) (o : Obj) (t : TypeId) (c : Array Value) (j : Nat) : ((w.alloc o).alloc (.cells c t)).drew.frozen? ⟨w.heap.size + 1, j, none⟩ = false :=
  World.frozen?_alloc_at _ _ _ _ (by simp)
theorem canon_lt (a : Nat) (ha : a < 4294967296) : canonB a < 4294967296 := by unfold canonB; split <;> omega
end Go.Proofs.Ytjhmamkbdcfcoaa
