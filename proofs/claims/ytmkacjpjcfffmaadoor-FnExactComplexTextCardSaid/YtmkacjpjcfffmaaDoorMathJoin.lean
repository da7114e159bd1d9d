/- Plain laws: the greatest sets of a list are those of what lies under it; pairs of sets. No program is named here. -/
import Derived.Test.YtmkacjpjcfffmaaDoorMathFace
namespace Go.Proofs.YtmkacjpjcfffmaaDoor

theorem faceP_down {xs : List Int} {s t : Nat} (h : sub s t = true) (k : faceP xs t = true) : faceP xs s = true := by
  obtain ⟨x, hx, hs⟩ := List.any_eq_true.1 k
  exact List.any_eq_true.2 ⟨x, hx, sub_trans2 h hs⟩
theorem under_list {xs : List Int} (hx : allSets xs = true) (s : Nat) : Under (inList xs) s ↔ faceP xs s = true := by
  constructor
  · rintro ⟨t, _, hp, hs⟩
    exact List.any_eq_true.2 ⟨(t : Int), List.contains_iff_mem.1 hp, by rw [Int.toNat_natCast]; exact hs⟩
  · intro h
    obtain ⟨x, hx', hs⟩ := List.any_eq_true.1 h
    obtain ⟨h0, h1⟩ := allSets_at hx hx'
    obtain ⟨m, rfl⟩ := Int.eq_ofNat_of_zero_le h0
    rw [Int.toNat_natCast] at hs
    exact ⟨m, by omega, List.contains_iff_mem.2 hx', hs⟩
theorem maxOf_list {xs : List Int} (hx : allSets xs = true) : maxOf (inList xs) = maxOf (faceP xs) := by
  apply maxOf_under
  intro s hs
  rw [under_list hx]
  exact ⟨fun h => ⟨s, hs, h, sub_self s⟩, fun ⟨t, _, ht, h⟩ => faceP_down h ht⟩
theorem faceP_append (xs ys : List Int) (s : Nat) : faceP (xs ++ ys) s = (faceP xs s || faceP ys s) := by simp [faceP]
theorem allSets_append {xs ys : List Int} (h : allSets xs = true) (k : allSets ys = true) : allSets (xs ++ ys) = true := by
  unfold allSets at *
  rw [List.all_append, h, k]
  rfl
theorem allSets_zs {l : List Nat} (h : ∀ s ∈ l, s < 64) : allSets (zs l) = true := by
  refine List.all_eq_true.2 fun x hx => decide_eq_true ?_
  obtain ⟨m, hm, rfl⟩ := List.mem_map.1 hx
  have := h m hm
  constructor
  · show (0 : Int) ≤ (m : Int); omega
  · show (m : Int) < 64; omega
theorem faceP_zs (l : List Nat) (s : Nat) : faceP (zs l) s = l.any (sub s) := by
  unfold faceP zs
  rw [List.any_map]
  rfl

/-! ### a complex has few facets -/
theorem cx_at {n : Int} {xs : List Int} (h : isCx n xs = true) {k : Nat} (hk : k < xs.length) : 0 ≤ xs.getD k 0 ∧ xs.getD k 0 < 64 := by
  have e : xs.getD k 0 = xs[k] := getD_of (List.getElem?_eq_getElem hk)
  rw [e]
  exact isCx_sets h _ (List.getElem_mem hk)
theorem cx_key {n : Int} {xs : List Int} (h : isCx n xs = true) : ∀ k, k < xs.length → k ≤ pc (xs.getD k 0).toNat * 64 + (xs.getD k 0).toNat
  | 0, _ => Nat.zero_le _
  | k + 1, hk => by
    have ih := cx_key h k (by omega)
    have h1 := (isCx_inv h).2.1 (k + 1) hk
    unfold cxFirst at h1
    rw [Bool.and_eq_true] at h1
    have h2 := h1.2
    rw [show (k + 1 == 0) = false by simp, Bool.false_or, show k + 1 - 1 = k by omega] at h2
    unfold beforeI at h2
    simp only [Bool.or_eq_true, Bool.and_eq_true, decide_eq_true_eq] at h2
    have ha := cx_at h (show k < xs.length by omega)
    have hb := cx_at h hk
    rcases h2 with h2 | ⟨h3, h4⟩
    · omega
    · omega
theorem cx_len {n : Int} {xs : List Int} (h : isCx n xs = true) : xs.length ≤ 448 := by
  by_cases h0 : xs.length = 0
  · omega
  · have h1 := cx_key h (xs.length - 1) (by omega)
    have h2 := cx_at h (show xs.length - 1 < xs.length by omega)
    have h3 := pc_le6 (xs.getD (xs.length - 1) 0).toNat (by omega)
    omega

theorem isCx_bit {n : Int} {xs : List Int} (h : isCx n xs = true) {k x : Nat} (hx : xs[k]? = some (x : Int)) : x < 2 ^ n.toNat := by
  have h1 := (isSetB_yes (isCx_fit h _ (List.mem_of_getElem? hx))).2.2.2
  have e : ((2 ^ n.toNat : Nat) : Int) = (2 : Int) ^ n.toNat := by rw [Int.natCast_pow]; rfl
  rw [← e] at h1
  exact Int.ofNat_lt.1 h1

/-! ### all pairs -/
def prods (f : Nat → Nat → Nat) (xs ys : List Int) : List Nat := xs.flatMap fun x => ys.map fun y => f x.toNat y.toNat
def prodTo (f : Nat → Nat → Nat) (xs ys : List Int) (i k : Nat) : List Nat := prods f (xs.take i) ys ++ (ys.take k).map fun y => f (xs.getD i 0).toNat y.toNat
theorem prodTo_zero (f : Nat → Nat → Nat) (xs ys : List Int) : prodTo f xs ys 0 0 = [] := by simp [prodTo, prods]
theorem prodTo_step {f : Nat → Nat → Nat} {xs ys : List Int} {i k : Nat} {x y : Nat} (hx : xs[i]? = some (x : Int)) (hy : ys[k]? = some (y : Int)) : prodTo f xs ys i (k + 1) = prodTo f xs ys i k ++ [f x y] := by
  unfold prodTo
  rw [List.take_add_one, hy, List.getD_eq_getElem?_getD, hx]
  simp
theorem prodTo_next {f : Nat → Nat → Nat} {xs ys : List Int} {i k : Nat} {x : Int} (hx : xs[i]? = some x) (hk : ys.length ≤ k) : prodTo f xs ys (i + 1) 0 = prodTo f xs ys i k := by
  have hg : xs.getD i 0 = x := by rw [List.getD_eq_getElem?_getD, hx]; rfl
  unfold prodTo prods
  rw [List.take_add_one, hx, List.take_of_length_le hk, hg]
  simp
theorem prodTo_all {f : Nat → Nat → Nat} {xs ys : List Int} {i : Nat} (hi : xs.length ≤ i) : prodTo f xs ys i 0 = prods f xs ys := by
  unfold prodTo
  rw [List.take_of_length_le hi]
  simp
theorem prods_len (f : Nat → Nat → Nat) (xs ys : List Int) : (prods f xs ys).length = xs.length * ys.length := by
  induction xs with
  | nil => simp [prods]
  | cons a t ih =>
    unfold prods at *
    rw [List.flatMap_cons, List.length_append, List.length_map, ih, List.length_cons, Nat.add_mul, Nat.one_mul, Nat.add_comm]
theorem prodTo_len {f : Nat → Nat → Nat} {xs ys : List Int} {i k : Nat} : (prodTo f xs ys i k).length ≤ (i + 1) * ys.length := by
  unfold prodTo
  rw [List.length_append, prods_len, List.length_map, List.length_take, List.length_take, Nat.add_mul, Nat.one_mul]
  have := Nat.mul_le_mul_right ys.length (Nat.min_le_left i xs.length)
  omega
theorem mem_prods {f : Nat → Nat → Nat} {xs ys : List Int} {s : Nat} : s ∈ prods f xs ys ↔ ∃ x ∈ xs, ∃ y ∈ ys, f x.toNat y.toNat = s := by
  unfold prods
  simp
theorem meet_faces (xs ys : List Int) (s : Nat) : faceP (zs (prods (fun x y => x &&& y) xs ys)) s = (faceP xs s && faceP ys s) := by
  rw [faceP_zs, Bool.eq_iff_iff, Bool.and_eq_true]
  constructor
  · intro h
    obtain ⟨t, ht, hs⟩ := List.any_eq_true.1 h
    obtain ⟨x, hx, y, hy, rfl⟩ := mem_prods.1 ht
    refine ⟨List.any_eq_true.2 ⟨x, hx, sub_trans2 hs ?_⟩, List.any_eq_true.2 ⟨y, hy, sub_trans2 hs ?_⟩⟩
    · rw [sub_iff, Nat.and_assoc, Nat.and_comm y.toNat, ← Nat.and_assoc, Nat.and_self]
    · rw [sub_iff, Nat.and_assoc, Nat.and_self]
  · rintro ⟨h1, h2⟩
    obtain ⟨x, hx, hs⟩ := List.any_eq_true.1 h1
    obtain ⟨y, hy, hs2⟩ := List.any_eq_true.1 h2
    refine List.any_eq_true.2 ⟨_, mem_prods.2 ⟨x, hx, y, hy, rfl⟩, ?_⟩
    rw [sub_iff] at *
    rw [← Nat.and_assoc, hs, hs2]
/-- Two sets side by side: the second moved n up. -/
def besideN (n x y : Nat) : Nat := x ||| y <<< n
theorem beside_add {n x y : Nat} (h : x < 2 ^ n) : x + y * 2 ^ n = besideN n x y := by
  unfold besideN
  have h1 := Nat.two_pow_add_eq_or_of_lt h y
  rw [Nat.shiftLeft_eq, Nat.or_comm, Nat.mul_comm y, ← h1, Nat.add_comm]
theorem beside_lt {n m x y : Nat} (h : x < 2 ^ n) (hy : y < 2 ^ m) (hm : n + m ≤ 6) : besideN n x y < 64 := by
  rw [← beside_add h]
  have h1 : (y + 1) * 2 ^ n ≤ 2 ^ m * 2 ^ n := Nat.mul_le_mul_right _ hy
  rw [← Nat.pow_add, Nat.add_mul, Nat.one_mul] at h1
  have h2 : 2 ^ (m + n) ≤ 2 ^ 6 := Nat.pow_le_pow_right (by omega) (by omega)
  omega
theorem shift_lt {n m y : Nat} (hy : y < 2 ^ m) (hm : n + m ≤ 6) : y * 2 ^ n < 64 := by
  have := beside_lt (n := n) (x := 0) (Nat.two_pow_pos n) hy hm
  rw [← beside_add (Nat.two_pow_pos n)] at this
  omega
/-- Whether two complexes have few enough points together. -/
def joinOk (n m : Int) (xs ys : List Int) : Bool := isCx n xs && isCx m ys && decide (n + m ≤ 6)
def sameOk (n m : Int) (xs ys : List Int) : Bool := isCx n xs && isCx m ys && decide (n = m)
def joinL (n : Int) (xs ys : List Int) : List Nat := prods (besideN n.toNat) xs ys
def moveL (n : Nat) (ys : List Int) : List Nat := ys.map fun y => y.toNat * 2 ^ n
def disL (n : Int) (xs ys : List Int) : List Int := xs ++ zs (moveL n.toNat ys)
end Go.Proofs.YtmkacjpjcfffmaaDoor
