/- Texts of one kind, laid together (6 of them). -/
import Derived.Test.YtmkacjpjcfffmabGreatDoorP3
import Derived.Test.YtmkacjpjcfffmabGreatDoorP4
import Derived.Test.YtmkacjpjcfffmabGreatDoorP5
namespace Go.Proofs.YtmkacjpjcfffmabGreatDoor
/- Plain laws: faces; the greatest sets of a family hang on its down-closure alone. No program is named here. -/
section
theorem sub_self (s : Nat) : sub s s = true := sub_refl s
theorem sub_iff {a b : Nat} : sub a b = true ↔ a &&& b = a := by simp [sub]
theorem sub_trans2 {a b c : Nat} (h : sub a b = true) (k : sub b c = true) : sub a c = true := by
  rw [sub_iff] at *
  rw [← h, Nat.and_assoc, k]
theorem sub_anti {a b : Nat} (h : sub a b = true) (k : sub b a = true) : a = b := Nat.le_antisymm (sub_le h) (sub_le k)
theorem sub_pcle {s t : Nat} (hs : s < 64) (ht : t < 64) (h : sub s t = true) : pc s ≤ pc t := by
  by_cases e : t = s
  · rw [e]; exact Nat.le_refl _
  · exact Nat.le_of_lt (sub_pc hs ht h e)

theorem layer_filter (P Q : Nat → Bool) (k : Nat) : (layer P k).filter Q = layer (fun s => P s && Q s) k := by
  unfold layer
  rw [List.filter_filter]
  apply List.filter_congr
  intro s _
  cases hp : P s <;> cases hq : Q s <;> simp [hp, hq]
theorem listOf_filter (P Q : Nat → Bool) : (listOf P).filter Q = listOf (fun s => P s && Q s) := by
  unfold listOf
  rw [List.filter_flatMap]
  congr 1
  funext k
  exact layer_filter P Q k
theorem maxOf_eq (P : Nat → Bool) : maxOf P = listOf (fun s => P s && keepMax (listOf P) s) := listOf_filter P _
theorem keepMax_iff {P : Nat → Bool} {s : Nat} : keepMax (listOf P) s = true ↔ ∀ t, t < 64 → P t = true → sub s t = true → t = s := by
  unfold keepMax
  rw [List.all_eq_true]
  constructor
  · intro h t ht hp hs
    have := h t (mem_listOf.2 ⟨ht, hp⟩)
    rw [hs] at this
    simpa using this
  · intro h t ht
    obtain ⟨h1, h2⟩ := mem_listOf.1 ht
    cases hs : sub s t
    · simp
    · simpa using h t h1 h2 hs
/-- s lies in a set of the family. -/
def Under (P : Nat → Bool) (s : Nat) : Prop := ∃ t, t < 64 ∧ P t = true ∧ sub s t = true
theorem maxOf_half {P Q : Nat → Bool} (h : ∀ s, s < 64 → (Under P s ↔ Under Q s)) {s : Nat} (hs : s < 64) (hp : P s = true ∧ keepMax (listOf P) s = true) : Q s = true ∧ keepMax (listOf Q) s = true := by
  obtain ⟨h1, h2⟩ := hp
  rw [keepMax_iff] at *
  obtain ⟨t, ht, hq, hst⟩ := (h s hs).1 ⟨s, hs, h1, sub_self s⟩
  obtain ⟨u, hu, hpu, htu⟩ := (h t ht).2 ⟨t, ht, hq, sub_self t⟩
  have hus := h2 u hu hpu (sub_trans2 hst htu)
  subst hus
  obtain rfl := sub_anti hst htu
  refine ⟨hq, fun v hv hqv hsv => ?_⟩
  obtain ⟨x, hx, hpx, hvx⟩ := (h v hv).2 ⟨v, hv, hqv, sub_self v⟩
  have := h2 x hx hpx (sub_trans2 hsv hvx)
  subst this
  exact sub_anti hvx hsv
/-- THE KEY: two families with the same down-closure have the same greatest sets. -/
theorem maxOf_under {P Q : Nat → Bool} (h : ∀ s, s < 64 → (Under P s ↔ Under Q s)) : maxOf P = maxOf Q := by
  rw [maxOf_eq, maxOf_eq]
  apply listOf_congr
  intro s hs
  rw [Bool.eq_iff_iff, Bool.and_eq_true, Bool.and_eq_true]
  exact ⟨maxOf_half h hs, maxOf_half (fun s hs => (h s hs).symm) hs⟩

/-! ### faces -/
def faceP (xs : List Int) (s : Nat) : Bool := xs.any (fun x => sub s x.toNat)
theorem faceP_nil : faceP [] = fun _ => false := by funext s; rfl
theorem faceP_snoc (xs : List Int) (x : Int) (s : Nat) : faceP (xs ++ [x]) s = (faceP xs s || sub s x.toNat) := by simp [faceP]
theorem or_fams (P Q : Nat → Bool) : bits BinOp.or IntKind.u64 (fam P : Int) (fam Q : Int) = ((fam (fun s => P s || Q s) : Nat) : Int) := by
  rw [u64_or_nat _ _ (fam_lt P) (fam_lt Q), fam_or]
theorem isSetB_sub {n x : Int} {s : Nat} (hx : isSetB n x = true) (h : sub s x.toNat = true) : isSetB n (s : Int) = true := by
  obtain ⟨h0, h1, h2, h3⟩ := isSetB_yes hx
  have := sub_le h
  exact isSetB_mk ⟨h0, h1, by omega, by omega⟩
theorem faceP_set {n : Int} {xs : List Int} {s : Nat} (hcx : isCx n xs = true) (h : faceP xs s = true) : isSetB n (s : Int) = true := by
  obtain ⟨x, hx, hs⟩ := List.any_eq_true.1 h
  exact isSetB_sub (isCx_fit hcx x hx) hs
def hasFaceOf (n : Int) (xs : List Int) (s : Int) : Bool := isCx n xs && decide (0 ≤ s ∧ s < 64) && faceP xs s.toNat

/-! ### the greatest size -/
def topTo (P : Nat → Bool) : Nat → Int
  | 0 => -1
  | k + 1 => if P k && decide (topTo P k < (pc k : Int)) then (pc k : Int) else topTo P k
theorem topTo_yes {P : Nat → Bool} {k : Nat} (h : P k = true) (h2 : topTo P k < (pc k : Int)) : topTo P (k + 1) = (pc k : Int) := by simp [topTo, h, h2]
theorem topTo_no {P : Nat → Bool} {k : Nat} (h : ¬ (P k = true ∧ topTo P k < (pc k : Int))) : topTo P (k + 1) = topTo P k := by
  show (if P k && decide (topTo P k < (pc k : Int)) then (pc k : Int) else topTo P k) = _
  rw [if_neg]
  rw [Bool.and_eq_true, decide_eq_true_eq]
  exact h
theorem topTo_ge (P : Nat → Bool) : ∀ k, -1 ≤ topTo P k ∧ topTo P k ≤ 6 ∨ 64 < k
  | 0 => .inl ⟨by show (-1 : Int) ≤ -1; omega, by show (-1 : Int) ≤ 6; omega⟩
  | k + 1 => by
    rcases topTo_ge P k with h | h
    · by_cases hk : k < 64
      · have := pc_le6 k hk
        left
        unfold topTo
        split <;> omega
      · right; omega
    · right; omega
theorem topTo_spec (P : Nat → Bool) : ∀ k, (∀ s, s < k → P s = true → (pc s : Int) ≤ topTo P k) ∧ (topTo P k = -1 ∨ ∃ s, s < k ∧ P s = true ∧ topTo P k = (pc s : Int))
  | 0 => ⟨fun s hs => by omega, .inl rfl⟩
  | k + 1 => by
    obtain ⟨h1, h2⟩ := topTo_spec P k
    by_cases hc : P k = true ∧ topTo P k < (pc k : Int)
    · rw [topTo_yes hc.1 hc.2]
      refine ⟨fun s hs hp => ?_, .inr ⟨k, by omega, hc.1, rfl⟩⟩
      rcases Nat.lt_or_ge s k with h | h
      · have := h1 s h hp; omega
      · obtain rfl : s = k := by omega
        omega
    · rw [topTo_no hc]
      refine ⟨fun s hs hp => ?_, ?_⟩
      · rcases Nat.lt_or_ge s k with h | h
        · exact h1 s h hp
        · obtain rfl : s = k := by omega
          exact Int.not_lt.1 (fun h => hc ⟨hp, h⟩)
      · rcases h2 with h | ⟨s, hs, h⟩
        · exact .inl h
        · exact .inr ⟨s, by omega, h⟩
def topOf (P : Nat → Bool) : Int := topTo P 64
/-- Facets grow in size. -/
theorem cx_mono {n : Int} {xs : List Int} (h : isCx n xs = true) : ∀ d k, k + d < xs.length → pc (xs.getD k 0).toNat ≤ pc (xs.getD (k + d) 0).toNat
  | 0, k, _ => Nat.le_refl _
  | d + 1, k, hk => by
    refine Nat.le_trans (cx_mono h d k (by omega)) ?_
    have h1 := (isCx_inv h).2.1 (k + (d + 1)) hk
    unfold cxFirst at h1
    rw [Bool.and_eq_true] at h1
    have h2 := h1.2
    rw [show (k + (d + 1) == 0) = false by simp, Bool.false_or, show k + (d + 1) - 1 = k + d by omega] at h2
    unfold beforeI at h2
    rw [Bool.or_eq_true, Bool.and_eq_true, decide_eq_true_eq, decide_eq_true_eq] at h2
    omega
/-- The greatest face's size is the last facet's. -/
theorem topOf_last {n : Int} {xs : List Int} (h : isCx n xs = true) {x : Int} (hx : xs[xs.length - 1]? = some x) : topOf (faceP xs) = (pc x.toNat : Int) := by
  have hl := (List.getElem?_eq_some_iff.1 hx).1
  have hx64 := isCx_sets h x (List.mem_of_getElem? hx)
  obtain ⟨h1, h2⟩ := topTo_spec (faceP xs) 64
  have hin : faceP xs x.toNat = true := List.any_eq_true.2 ⟨x, List.mem_of_getElem? hx, sub_self _⟩
  have hlo := h1 x.toNat (by omega) hin
  unfold topOf
  rcases h2 with h2 | ⟨s, hs, hp, h2⟩
  · omega
  · obtain ⟨y, hy, hsy⟩ := List.any_eq_true.1 hp
    have hy64 := isCx_sets h y hy
    have h3 := sub_pcle hs (by omega) hsy
    obtain ⟨j, hj, hje⟩ := List.mem_iff_getElem.1 hy
    have hyj : xs.getD j 0 = y := getD_of (List.getElem?_eq_some_iff.2 ⟨hj, hje⟩)
    have h4 := cx_mono h (xs.length - 1 - j) j (by omega)
    rw [hyj, show j + (xs.length - 1 - j) = xs.length - 1 by omega, getD_of hx] at h4
    omega
theorem topOf_nil : topOf (faceP []) = -1 := by
  rcases topTo_spec (faceP []) 64 with ⟨_, h | ⟨s, _, hp, _⟩⟩
  · exact h
  · simp [faceP] at hp
def dimOf (n : Int) (xs : List Int) : Int := if isCx n xs then topOf (faceP xs) - 1 else -2
theorem dimOf_last {n : Int} {xs : List Int} (h : isCx n xs = true) {x : Int} (hx : xs[xs.length - 1]? = some x) : dimOf n xs = (pc x.toNat : Int) - 1 := by
  unfold dimOf
  rw [h, topOf_last h hx]
  rfl
theorem dimOf_nil {n : Int} {xs : List Int} (h : isCx n xs = true) (hx : xs.length ≤ 0) : dimOf n xs = -2 := by
  obtain rfl : xs = [] := List.eq_nil_of_length_eq_zero (by omega)
  unfold dimOf
  rw [h, topOf_nil]
  rfl
theorem dimOf_no {n : Int} {xs : List Int} (h : isCx n xs = false) : dimOf n xs = -2 := by simp [dimOf, h]

/-! ### pure -/
def pureOf (n : Int) (xs : List Int) : Bool := isCx n xs && xs.all (fun x => pc x.toNat == pc (xs.getD 0 0).toNat)
theorem pureOf_no {n : Int} {xs : List Int} (h : isCx n xs = false) : pureOf n xs = false := by simp [pureOf, h]
theorem pureOf_bad {n : Int} {xs : List Int} {k : Nat} {x : Int} (hx : xs[k]? = some x) (h : (pc x.toNat == pc (xs.getD 0 0).toNat) = false) : pureOf n xs = false := by
  unfold pureOf
  rw [List.all_eq_false.2 ⟨x, List.mem_of_getElem? hx, by simpa using h⟩]
  simp
theorem pureOf_all {n : Int} {xs : List Int} (h : ∀ (k : Nat) x, k < xs.length → xs[k]? = some x → pc x.toNat = pc (xs.getD 0 0).toNat) : pureOf n xs = isCx n xs := by
  unfold pureOf
  rw [List.all_eq_true.2 (fun x hx => by
    obtain ⟨j, hj, hje⟩ := List.mem_iff_getElem.1 hx
    simpa using h j x hj (List.getElem?_eq_some_iff.2 ⟨hj, hje⟩))]
  simp
end

/- Plain laws: the greatest sets of a list are those of what lies under it; pairs of sets. No program is named here. -/
section
theorem faceP_down {xs : List Int} {s t : Nat} (h : sub s t = true) (k : faceP xs t = true) : faceP xs s = true := by
  obtain ⟨x, hx, hs⟩ := List.any_eq_true.1 k
  exact List.any_eq_true.2 ⟨x, hx, sub_trans2 h hs⟩
theorem under_list {xs : List Int} (hx : allSets xs = true) (s : Nat) : Under (inList xs) s ↔ faceP xs s = true := by
  constructor
  · rintro ⟨t, _, hp, hs⟩
    exact List.any_eq_true.2 ⟨(t : Int), List.contains_iff_mem.1 hp, by rw [Int.toNat_natCast]; exact hs⟩
  · intro h
    obtain ⟨x, hx', hs⟩ := List.any_eq_true.1 h
    obtain ⟨h0, h1⟩ := allSets_at hx hx'
    obtain ⟨m, rfl⟩ := Int.eq_ofNat_of_zero_le h0
    rw [Int.toNat_natCast] at hs
    exact ⟨m, by omega, List.contains_iff_mem.2 hx', hs⟩
theorem maxOf_list {xs : List Int} (hx : allSets xs = true) : maxOf (inList xs) = maxOf (faceP xs) := by
  apply maxOf_under
  intro s hs
  rw [under_list hx]
  exact ⟨fun h => ⟨s, hs, h, sub_self s⟩, fun ⟨t, _, ht, h⟩ => faceP_down h ht⟩
theorem faceP_append (xs ys : List Int) (s : Nat) : faceP (xs ++ ys) s = (faceP xs s || faceP ys s) := by simp [faceP]
theorem allSets_append {xs ys : List Int} (h : allSets xs = true) (k : allSets ys = true) : allSets (xs ++ ys) = true := by
  unfold allSets at *
  rw [List.all_append, h, k]
  rfl
theorem allSets_zs {l : List Nat} (h : ∀ s ∈ l, s < 64) : allSets (zs l) = true := by
  refine List.all_eq_true.2 fun x hx => decide_eq_true ?_
  obtain ⟨m, hm, rfl⟩ := List.mem_map.1 hx
  have := h m hm
  constructor
  · show (0 : Int) ≤ (m : Int); omega
  · show (m : Int) < 64; omega
theorem faceP_zs (l : List Nat) (s : Nat) : faceP (zs l) s = l.any (sub s) := by
  unfold faceP zs
  rw [List.any_map]
  rfl

/-! ### a complex has few facets -/
theorem cx_at {n : Int} {xs : List Int} (h : isCx n xs = true) {k : Nat} (hk : k < xs.length) : 0 ≤ xs.getD k 0 ∧ xs.getD k 0 < 64 := by
  have e : xs.getD k 0 = xs[k] := getD_of (List.getElem?_eq_getElem hk)
  rw [e]
  exact isCx_sets h _ (List.getElem_mem hk)
theorem cx_key {n : Int} {xs : List Int} (h : isCx n xs = true) : ∀ k, k < xs.length → k ≤ pc (xs.getD k 0).toNat * 64 + (xs.getD k 0).toNat
  | 0, _ => Nat.zero_le _
  | k + 1, hk => by
    have ih := cx_key h k (by omega)
    have h1 := (isCx_inv h).2.1 (k + 1) hk
    unfold cxFirst at h1
    rw [Bool.and_eq_true] at h1
    have h2 := h1.2
    rw [show (k + 1 == 0) = false by simp, Bool.false_or, show k + 1 - 1 = k by omega] at h2
    unfold beforeI at h2
    simp only [Bool.or_eq_true, Bool.and_eq_true, decide_eq_true_eq] at h2
    have ha := cx_at h (show k < xs.length by omega)
    have hb := cx_at h hk
    rcases h2 with h2 | ⟨h3, h4⟩
    · omega
    · omega
theorem cx_len {n : Int} {xs : List Int} (h : isCx n xs = true) : xs.length ≤ 448 := by
  by_cases h0 : xs.length = 0
  · omega
  · have h1 := cx_key h (xs.length - 1) (by omega)
    have h2 := cx_at h (show xs.length - 1 < xs.length by omega)
    have h3 := pc_le6 (xs.getD (xs.length - 1) 0).toNat (by omega)
    omega

theorem isCx_bit {n : Int} {xs : List Int} (h : isCx n xs = true) {k x : Nat} (hx : xs[k]? = some (x : Int)) : x < 2 ^ n.toNat := by
  have h1 := (isSetB_yes (isCx_fit h _ (List.mem_of_getElem? hx))).2.2.2
  have e : ((2 ^ n.toNat : Nat) : Int) = (2 : Int) ^ n.toNat := by rw [Int.natCast_pow]; rfl
  rw [← e] at h1
  exact Int.ofNat_lt.1 h1

/-! ### all pairs -/
def prods (f : Nat → Nat → Nat) (xs ys : List Int) : List Nat := xs.flatMap fun x => ys.map fun y => f x.toNat y.toNat
def prodTo (f : Nat → Nat → Nat) (xs ys : List Int) (i k : Nat) : List Nat := prods f (xs.take i) ys ++ (ys.take k).map fun y => f (xs.getD i 0).toNat y.toNat
theorem prodTo_zero (f : Nat → Nat → Nat) (xs ys : List Int) : prodTo f xs ys 0 0 = [] := by simp [prodTo, prods]
theorem prodTo_step {f : Nat → Nat → Nat} {xs ys : List Int} {i k : Nat} {x y : Nat} (hx : xs[i]? = some (x : Int)) (hy : ys[k]? = some (y : Int)) : prodTo f xs ys i (k + 1) = prodTo f xs ys i k ++ [f x y] := by
  unfold prodTo
  rw [List.take_add_one, hy, List.getD_eq_getElem?_getD, hx]
  simp
theorem prodTo_next {f : Nat → Nat → Nat} {xs ys : List Int} {i k : Nat} {x : Int} (hx : xs[i]? = some x) (hk : ys.length ≤ k) : prodTo f xs ys (i + 1) 0 = prodTo f xs ys i k := by
  have hg : xs.getD i 0 = x := by rw [List.getD_eq_getElem?_getD, hx]; rfl
  unfold prodTo prods
  rw [List.take_add_one, hx, List.take_of_length_le hk, hg]
  simp
theorem prodTo_all {f : Nat → Nat → Nat} {xs ys : List Int} {i : Nat} (hi : xs.length ≤ i) : prodTo f xs ys i 0 = prods f xs ys := by
  unfold prodTo
  rw [List.take_of_length_le hi]
  simp
theorem prods_len (f : Nat → Nat → Nat) (xs ys : List Int) : (prods f xs ys).length = xs.length * ys.length := by
  induction xs with
  | nil => simp [prods]
  | cons a t ih =>
    unfold prods at *
    rw [List.flatMap_cons, List.length_append, List.length_map, ih, List.length_cons, Nat.add_mul, Nat.one_mul, Nat.add_comm]
theorem prodTo_len {f : Nat → Nat → Nat} {xs ys : List Int} {i k : Nat} : (prodTo f xs ys i k).length ≤ (i + 1) * ys.length := by
  unfold prodTo
  rw [List.length_append, prods_len, List.length_map, List.length_take, List.length_take, Nat.add_mul, Nat.one_mul]
  have := Nat.mul_le_mul_right ys.length (Nat.min_le_left i xs.length)
  omega
theorem mem_prods {f : Nat → Nat → Nat} {xs ys : List Int} {s : Nat} : s ∈ prods f xs ys ↔ ∃ x ∈ xs, ∃ y ∈ ys, f x.toNat y.toNat = s := by
  unfold prods
  simp
theorem meet_faces (xs ys : List Int) (s : Nat) : faceP (zs (prods (fun x y => x &&& y) xs ys)) s = (faceP xs s && faceP ys s) := by
  rw [faceP_zs, Bool.eq_iff_iff, Bool.and_eq_true]
  constructor
  · intro h
    obtain ⟨t, ht, hs⟩ := List.any_eq_true.1 h
    obtain ⟨x, hx, y, hy, rfl⟩ := mem_prods.1 ht
    refine ⟨List.any_eq_true.2 ⟨x, hx, sub_trans2 hs ?_⟩, List.any_eq_true.2 ⟨y, hy, sub_trans2 hs ?_⟩⟩
    · rw [sub_iff, Nat.and_assoc, Nat.and_comm y.toNat, ← Nat.and_assoc, Nat.and_self]
    · rw [sub_iff, Nat.and_assoc, Nat.and_self]
  · rintro ⟨h1, h2⟩
    obtain ⟨x, hx, hs⟩ := List.any_eq_true.1 h1
    obtain ⟨y, hy, hs2⟩ := List.any_eq_true.1 h2
    refine List.any_eq_true.2 ⟨_, mem_prods.2 ⟨x, hx, y, hy, rfl⟩, ?_⟩
    rw [sub_iff] at *
    rw [← Nat.and_assoc, hs, hs2]
/-- Two sets side by side: the second moved n up. -/
def besideN (n x y : Nat) : Nat := x ||| y <<< n
theorem beside_add {n x y : Nat} (h : x < 2 ^ n) : x + y * 2 ^ n = besideN n x y := by
  unfold besideN
  have h1 := Nat.two_pow_add_eq_or_of_lt h y
  rw [Nat.shiftLeft_eq, Nat.or_comm, Nat.mul_comm y, ← h1, Nat.add_comm]
theorem beside_lt {n m x y : Nat} (h : x < 2 ^ n) (hy : y < 2 ^ m) (hm : n + m ≤ 6) : besideN n x y < 64 := by
  rw [← beside_add h]
  have h1 : (y + 1) * 2 ^ n ≤ 2 ^ m * 2 ^ n := Nat.mul_le_mul_right _ hy
  rw [← Nat.pow_add, Nat.add_mul, Nat.one_mul] at h1
  have h2 : 2 ^ (m + n) ≤ 2 ^ 6 := Nat.pow_le_pow_right (by omega) (by omega)
  omega
theorem shift_lt {n m y : Nat} (hy : y < 2 ^ m) (hm : n + m ≤ 6) : y * 2 ^ n < 64 := by
  have := beside_lt (n := n) (x := 0) (Nat.two_pow_pos n) hy hm
  rw [← beside_add (Nat.two_pow_pos n)] at this
  omega
/-- Whether two complexes have few enough points together. -/
def joinOk (n m : Int) (xs ys : List Int) : Bool := isCx n xs && isCx m ys && decide (n + m ≤ 6)
def sameOk (n m : Int) (xs ys : List Int) : Bool := isCx n xs && isCx m ys && decide (n = m)
def joinL (n : Int) (xs ys : List Int) : List Nat := prods (besideN n.toNat) xs ys
def moveL (n : Nat) (ys : List Int) : List Nat := ys.map fun y => y.toNat * 2 ^ n
def disL (n : Int) (xs ys : List Int) : List Int := xs ++ zs (moveL n.toNat ys)
end

/- Walks: the draws of complexes: l3Size, l3Pure. -/
section
open Go.RowKit

theorem pow6 {m : Nat} (h1 : 1 ≤ m) (h : m ≤ 6) : ∃ K : Nat, 2 ≤ K ∧ K ≤ 64 ∧ K = 2 ^ m ∧ (2 : Int) ^ m = (K : Int) := by
  have : m = 1 ∨ m = 2 ∨ m = 3 ∨ m = 4 ∨ m = 5 ∨ m = 6 := by omega
  rcases this with rfl | rfl | rfl | rfl | rfl | rfl <;> exact ⟨_, by decide, by decide, rfl, by decide⟩
theorem few_max {m : Nat} (hm : m ≤ 6) (P : Nat → Bool) : Few 900 (m : Int) (zs (maxOf P)) := by
  refine ⟨by omega, by omega, ?_, fun x hx => ?_⟩
  · have := maxOf_len P
    show (List.map _ _).length ≤ _
    rw [List.length_map]
    omega
  · obtain ⟨s, hs, rfl⟩ := List.mem_map.1 hx
    have h2 : s ∈ listOf P := by
      unfold maxOf maxL at hs
      exact (List.mem_filter.1 hs).1
    have h3 := (mem_listOf.1 h2).1
    show -100 ≤ (s : Int) ∧ (s : Int) ≤ 100
    omega
/-- k sets. -/
def SetsK (xs : List Int) (k : Nat) : Prop := xs.length = k ∧ allSets xs = true
theorem SetsK.snoc {xs : List Int} {k : Nat} (h : SetsK xs k) {x : Int} (h0 : 0 ≤ x) (h1 : x < 64) : SetsK (xs ++ [x]) (k + 1) :=
  ⟨by rw [List.length_append, h.1]; rfl, by rw [allSets_snoc, h.2, decide_eq_true (And.intro h0 h1)]; rfl⟩

set_option maxHeartbeats 1600000 in
theorem l3SizeS (p : Nat) (v : Value) (L : List UInt8) (m : Nat) (W : World) (hm1 : 1 ≤ m) (hm6 : m ≤ 6) (h : CurAt W p v L) (hL : L.length ≤ 1073741824) :
    Calls Tryz.prog 70 #[.pointer (some ⟨p, 0, none⟩), .int .i64 (m : Int)] W fun e W' => RetD 900 W p v L e W' := by
  obtain ⟨K, hK2, hK64, hKp, hw⟩ := pow6 hm1 hm6
  have HKp := hide hKp
  clear hKp
  have D0 := hide (Dr.start h 26)
  obtain ⟨w1, hW1⟩ : ∃ X, W.alloc (.cells #[.int .i64 0, .slice none 0 0] 26) = X := ⟨_, rfl⟩
  rw [hW1] at D0
  have Hz : Hid (w1.heap.size = W.heap.size + 1) := by show _ = _; rw [← hW1]; simp
  obtain ⟨w2, hW2, ho, hb⟩ : ∃ X, w1.alloc (.cells #[] 3) = X ∧ OwnV 3 X w1.heap.size (.slice (some ⟨w1.heap.size, 0, none⟩) 0 0) (ints []) ∧ Below w1.heap.size w1 X := ⟨_, rfl, own_empty _ _, below_alloc _ _⟩
  have D2 := hide (D0.out.next hb)
  have O2 : Hid (OwnV 3 w2 (W.heap.size + 1) (.slice (some ⟨w1.heap.size, 0, none⟩) 0 0) (ints [])) := own_mono ho (by have := Hz.out; omega)
  have hp := h.lt
  clear h ho hb D0
  go_enter Tryz.func70, Tryz.ntmps70
  go_wp2_with fail
  clear hW1 hW2
  refine (pickLitIntS p v L [0, 1, 2, 3, 4, 4, 5, 6] _ w2 D2.out.cur hL (by decide) (by decide)).mono ?_
  rintro e w3 ⟨x, hx, rfl, c3, g3⟩
  have D3 := hide (D2.out.draw c3 g3)
  have O3 : Hid (∃ xs, SetsK xs 0 ∧ OwnV 3 w3 (W.heap.size + 1) (.slice (some ⟨w1.heap.size, 0, none⟩) 0 0) (ints xs)) := ⟨[], ⟨rfl, rfl⟩, own_grown O2.out g3 (fun j hj e => by
    have h1 := own_block O2.out j hj
    have h2 := Option.some.inj e
    omega)⟩
  have hx' : 0 ≤ x ∧ x ≤ 6 := by
    simp only [List.mem_cons, List.not_mem_nil, or_false] at hx
    omega
  obtain ⟨n, rfl⟩ := Int.eq_ofNat_of_zero_le hx'.1
  have hn6 : n ≤ 6 := by omega
  clear hx hx' c3 g3 D2 O2
  go_wp2_with fail
  go_loopw [5, 7, 8] (fun u i _ wr => ∃ k : Nat, k ≤ n ∧ i = .int .i64 k ∧ Hid (∃ xs, SetsK xs k ∧ OwnV 3 wr (W.heap.size + 1) u (ints xs)) ∧ Hid (Dr W W.heap.size p v L wr)) (fun _ i _ _ => n - (intOf i).toNat)
  case atStart => exact ⟨0, by omega, rfl, O3, D3⟩
  case round =>
    obtain ⟨k, hk, rfl, hown, hd⟩ := hrel
    obtain ⟨xs, hsm, ho⟩ := hown.out
    have Hsm := hide hsm
    have Ho := hide ho
    clear hsm ho hown
    by_cases hlt : k < n
    · go_wp2_with fail
      refine (l1BelowS p v L _ wr hd.out.cur hL (by omega)).mono ?_
      rintro e w4 ⟨r, hr, _, rfl, c4, g4⟩
      have hrK := hr (by omega)
      have hne : Hid (∀ j, Value.ownBlock _ = some j → (some p : Option Nat) ≠ some j) := fun j hj e => by
        have h1 := (own_block Ho.out j hj).1
        have h2 := Option.some.inj e
        omega
      have Ho4 := hide (own_grown Ho.out g4 hne.out)
      have D4 := hide (hd.out.draw c4 g4)
      clear c4 g4 hr
      go_wp2_with fail
      refine (l1OnceS p v L _ w4 D4.out.cur hL (by omega)).mono ?_
      rintro e w5 ⟨b, rfl, c5, g5⟩
      have Ho5 := hide (own_grown Ho4.out g5 hne.out)
      have D5 := hide (D4.out.draw c5 g5)
      clear c5 g5
      cases b
      · have hlen : xs.length < 17179869184 := by have := Hsm.out.1; omega
        have hsz : W.heap.size + 1 ≤ w5.heap.size := by have := D5.out.res.lt; omega
        have ho5 := Ho5.out
        go_wp2_with (at_builtin; refine wpList_appI ho5 (r : Int) Tryz.underlying24 infoI rfl _ _ rfl rfl rfl hlen hsz ?_; intro v' w6 hown6 hb6 hg6)
        have D6 := hide (D5.out.low hb6 (Nat.lt_succ_self _))
        have O6 : Hid (∃ ys, SetsK ys (k + 1) ∧ OwnV 3 w6 (W.heap.size + 1) v' (ints ys)) := ⟨_, Hsm.out.snoc (by omega) (by omega), hown6⟩
        go_wp2
        go_roundw
        case rel => exact ⟨k + 1, by omega, by go_num, O6, D6⟩
        case measure => simp [intOf]; omega
      · go_wp2_with fail
        refine (l1BelowS p v L _ w5 D5.out.cur hL (by omega)).mono ?_
        rintro e w6 ⟨q, hq, _, rfl, c6, g6⟩
        have hqK := hq (by omega)
        have Ho6 := hide (own_grown Ho5.out g6 hne.out)
        have D6 := hide (D5.out.draw c6 g6)
        have hand := i64_and r q (by omega) (by omega)
        have hle : r &&& q ≤ r := Nat.and_le_left
        generalize r &&& q = rq at hand hle
        clear c6 g6 hq
        have hlen : xs.length < 17179869184 := by have := Hsm.out.1; omega
        have hsz : W.heap.size + 1 ≤ w6.heap.size := by have := D6.out.res.lt; omega
        have ho6 := Ho6.out
        go_wp2_with (at_builtin; refine wpList_appI ho6 (rq : Int) Tryz.underlying24 infoI rfl _ _ rfl rfl rfl hlen hsz ?_; intro v' w7 hown7 hb7 hg7)
        have D7 := hide (D6.out.low hb7 (Nat.lt_succ_self _))
        have O7 : Hid (∃ ys, SetsK ys (k + 1) ∧ OwnV 3 w7 (W.heap.size + 1) v' (ints ys)) := ⟨_, Hsm.out.snoc (by omega) (by omega), hown7⟩
        go_wp2
        go_roundw
        case rel => exact ⟨k + 1, by omega, by go_num, O7, D7⟩
        case measure => simp [intOf]; omega
    · have hkn : n ≤ k := by omega
      have hxl : xs.length ≤ 1073741824 := by have := Hsm.out.1; omega
      go_wp2_with fail
      refine (l3MakeS _ _ xs wr (own_reads Ho.out) hxl Hsm.out.2).mono ?_
      rintro e w4 ⟨v', rfl, o4, b4⟩
      have D4 := hide (hd.out.next b4)
      have O4 : Hid (OwnV 3 w4 (W.heap.size + 1) v' (ints (zs (maxOf (inList xs))))) := own_mono o4 (by have := hd.out.res.lt; omega)
      obtain ⟨A', c', rfl⟩ := own_shape o4
      obtain ⟨⟨q0, q1, hq0, hq1⟩, f0, f1⟩ := D4.out.res
      have hr := D4.out.res.lt
      clear b4 o4
      go_wp2
      refine bodyPost_ret (v := .agg #[.int .i64 m, .slice A' (zs (maxOf (inList xs))).length c']) (by simp [results, Tryz.results70, go_sem, hq0, hq1]) rfl ?_
      exact D4.out.done O4.out (few_max hm6 _) _ _
end

/- Walks: IsComplex, in the program and in the reference. -/
section
open Go.RowKit

def notBitX (s t : Nat) : Bool := (bits BinOp.andNot IntKind.i64 (s : Int) (t : Int) == 0) == sub s t
theorem notBitX_all : ((List.range 64).all fun s => (List.range 64).all fun t => notBitX s t) = true := by decide +kernel
theorem not_bitX {s t : Nat} (hs : s < 64) (ht : t < 64) : (bits BinOp.andNot IntKind.i64 (s : Int) (t : Int) == 0) = sub s t := by
  have h1 := List.all_eq_true.1 (List.all_eq_true.1 notBitX_all s (List.mem_range.2 hs)) t (List.mem_range.2 ht)
  unfold notBitX at h1
  simpa using h1
theorem any_snocX {α : Type} (l : List α) (f : α → Bool) (k : Nat) (t : α) (h : l[k]? = some t) : (l.take (k + 1)).any f = ((l.take k).any f || f t) := by
  rw [take_snoc _ _ _ h, List.any_append]
  simp

theorem isAntichainI (n : Int) (v : Value) (xs : List Int) (w : World) (h : IntsAt w w.heap.size v xs) (hl : xs.length ≤ 1073741824) :
    Calls Tryz.prog 60 #[.int .i64 n, v] w fun e w' => e = .returned (.bool (isCx n xs)) ∧ w = w' := by
  obtain ⟨A, c, rfl, hcap, he⟩ := form_ h
  have He := hide he
  clear h he
  by_cases hn : 1 ≤ n ∧ n ≤ 6
  · obtain ⟨hn1, hn2⟩ := hn
    go_enter Tryz.func60, Tryz.ntmps60
    go_wp2
    go_loop [5, 6, 19] (fun _ _ i => ∃ k : Nat, k ≤ xs.length ∧ i = .int .i64 k ∧ Hid (∀ j, j < k → cxFirst n xs j = true)) (fun _ _ i => xs.length - (intOf i).toNat)
    case atStart => exact ⟨0, by omega, rfl, fun j hj => by omega⟩
    case round =>
      obtain ⟨k, hk, rfl, hok⟩ := hrel
      by_cases hlt : k < xs.length
      · obtain ⟨b, o, x, rfl, hb, hx, hcx⟩ := He.out k hlt
        have Hx := hide hx
        have Hgx := hide (getD_of hx)
        clear hx
        cases hset : isSetB n x
        · have H := hide (isCx_first hlt (show cxFirst n xs k = false by unfold cxFirst; rw [Hgx.out, hset]; rfl))
          go_wp2_with (go_at_call 54; refine (isSetI _ _ _).mono ?_; rintro e w' ⟨rfl, rfl⟩)
          go_ret
          exact ⟨ret_bool H.out.symm, rfl⟩
        · by_cases hk0 : 0 < k
          · obtain ⟨b', o', y, hA, hb', hy, hcy⟩ := He.out (k - 1) (by omega)
            cases hA
            have Hgy := hide (getD_of hy)
            have Hys := hide (isSetB_64 (cxFirst_set hy (hok.out (k - 1) (by omega))))
            have Hxs := hide (isSetB_64 hset)
            have Hbe := hide (beforeSet_yes Hys.out Hxs.out)
            have hk0e : ((k : Int) > 0) := by omega
            clear hy hb'
            cases hbf : beforeI y x
            · have H := hide (isCx_first hlt (show cxFirst n xs k = false by
                unfold cxFirst
                rw [Hgx.out, Hgy.out, hbf]
                have : (k == 0) = false := by simp; omega
                simp [this]))
              have hbs : beforeSet y x = false := by rw [Hbe.out]; exact hbf
              clear hbf
              go_wp2_with (first | (go_at_call 54; refine (isSetI _ _ _).mono ?_; rintro e w' ⟨rfl, rfl⟩) | (go_at_call 75; refine (beforeSetI _ _ _).mono ?_; rintro e w' ⟨rfl, rfl⟩))
              go_ret
              exact ⟨ret_bool H.out.symm, rfl⟩
            · have Hok2 : Hid (∀ j, j < k + 1 → cxFirst n xs j = true) := by
                intro j hj
                rcases Nat.lt_or_ge j k with h | h
                · exact hok.out j h
                · obtain rfl : j = k := by omega
                  unfold cxFirst
                  rw [Hgx.out, Hgy.out, hbf, hset]
                  simp
              have hbs : beforeSet y x = true := by rw [Hbe.out]; exact hbf
              clear hbf
              go_wp2_with (first | (go_at_call 54; refine (isSetI _ _ _).mono ?_; rintro e w' ⟨rfl, rfl⟩) | (go_at_call 75; refine (beforeSetI _ _ _).mono ?_; rintro e w' ⟨rfl, rfl⟩))
              go_round
              case rel => exact ⟨k + 1, by omega, by go_num, Hok2⟩
              case measure => simp [intOf]; omega
          · obtain rfl : k = 0 := by omega
            simp only [Nat.add_zero] at hcx
            have Hok2 : Hid (∀ j, j < 0 + 1 → cxFirst n xs j = true) := by
              intro j hj
              obtain rfl : j = 0 := by omega
              unfold cxFirst
              rw [Hgx.out, hset]
              rfl
            go_wp2_with (go_at_call 54; refine (isSetI _ _ _).mono ?_; rintro e w' ⟨rfl, rfl⟩)
            go_round
            case rel => exact ⟨0 + 1, by omega, by go_num, Hok2⟩
            case measure => simp [intOf]; omega
      · have Hall : Hid (∀ j, j < xs.length → cxFirst n xs j = true) := fun j hj => hok.out j (by omega)
        have Hsets : Hid (∀ (j : Nat) (x : Int), xs[j]? = some x → ∃ m : Nat, x = (m : Int) ∧ m < 64) := by
          intro j x hx
          have hj := (List.getElem?_eq_some_iff.1 hx).1
          obtain ⟨h0, h1⟩ := isSetB_64 (cxFirst_set hx (Hall.out j hj))
          obtain ⟨m, rfl⟩ := Int.eq_ofNat_of_zero_le h0
          exact ⟨m, rfl, by omega⟩
        clear hok
        go_wp2
        go_loop [7, 8, 43] (fun _ _ i => ∃ k : Nat, k ≤ xs.length ∧ i = .int .i64 k ∧ Hid (∀ j, j < k → cxRow xs j = false)) (fun _ _ i => xs.length - (intOf i).toNat)
        case atStart => exact ⟨0, by omega, rfl, fun j hj => by omega⟩
        case round =>
          clear hlt hk
          obtain ⟨k, hk, rfl, hok⟩ := hrel
          by_cases hlt : k < xs.length
          · obtain ⟨b, o, x, rfl, hb, hx, hcx⟩ := He.out k hlt
            obtain ⟨s, rfl, hs64⟩ := Hsets.out k x hx
            have Hgx := hide (getD_of hx)
            clear hx
            by_cases hlast : xs.length ≤ k + 1
            · have Hok2 : Hid (∀ j, j < k + 1 → cxRow xs j = false) := by
                intro j hj
                rcases Nat.lt_or_ge j k with h | h
                · exact hok.out j h
                · obtain rfl : j = k := by omega
                  exact cxRow_last hlast
              have hz : ((xs.length : Int) - ((k : Int) + 1)) = 0 := by omega
              by_cases hcap2 : c = k + 1
              · subst hcap2
                go_wp2
                refine wp_loop_rounds 1 ?_
                rw [rounds_succ]
                go_wp2
                go_round
                case rel => exact ⟨k + 1, by omega, by go_num, Hok2⟩
                case measure => simp [intOf]; omega
              · go_wp2
                refine wp_loop_rounds 1 ?_
                rw [rounds_succ]
                go_wp2
                go_round
                case rel => exact ⟨k + 1, by omega, by go_num, Hok2⟩
                case measure => simp [intOf]; omega
            · have hcap3 : ¬ c = k + 1 := by omega
              have hlt3 : k + 1 < xs.length := by omega
              have Hr : Hid (∀ (i : Nat), i < xs.length - (k + 1) → ∃ t : Nat, (xs.drop (k + 1))[i]? = some (t : Int) ∧ w.cell? ⟨b, o + (k + 1) + i, none⟩ = some (.int .i64 (t : Int)) ∧ t < 64) := by
                intro i hi
                obtain ⟨b', o', y, hA, hb', hy, hcy⟩ := He.out (k + 1 + i) (by omega)
                cases hA
                obtain ⟨t, rfl, ht⟩ := Hsets.out _ _ hy
                exact ⟨t, by rw [List.getElem?_drop]; exact hy, by rw [show o + (k + 1) + i = o + (k + 1 + i) from by omega]; exact hcy, ht⟩
              have Hrl := hide (List.length_drop (i := k + 1) (l := xs))
              clear hlast
              go_wp2
              go_loop [10, 53] (fun _ j => ∃ i : Nat, i ≤ xs.length - (k + 1) ∧ j = .int .i64 i ∧ Hid (((xs.drop (k + 1)).take i).any (fun t => sub s t.toNat) = false)) (fun _ j => xs.length - (k + 1) - (intOf j).toNat)
              case atStart => exact ⟨0, by omega, rfl, by simp [Hid]⟩
              case round =>
                obtain ⟨i, hi, rfl, hno⟩ := hrel
                by_cases hil : i < xs.length - (k + 1)
                · obtain ⟨t, ht, hct, ht64⟩ := Hr.out i hil
                  have hnb := not_bitX hs64 ht64
                  have Han := hide (any_snocX _ (fun t => sub s t.toNat) i _ ht)
                  clear ht
                  cases hsub : sub s t
                  · rw [hsub] at hnb
                    have Hn2 : Hid (((xs.drop (k + 1)).take (i + 1)).any (fun t => sub s t.toNat) = false) := by show _ = _; rw [Han.out, hno.out, Int.toNat_natCast, hsub]; rfl
                    clear hsub
                    go_wp2
                    go_round
                    case rel => exact ⟨i + 1, by omega, by go_num, Hn2⟩
                    case measure => simp [intOf]; omega
                  · rw [hsub] at hnb
                    have H := hide (row_no (n := n) hlt (show cxRow xs k = true by
                      unfold cxRow
                      rw [Hgx.out, Int.toNat_natCast, ← List.take_append_drop (i + 1) (xs.drop (k + 1)), List.any_append, Han.out, Int.toNat_natCast, hsub]
                      simp))
                    clear hsub
                    go_wp2
                    go_ret
                    exact ⟨ret_bool H.out.symm, rfl⟩
                · have Hok2 : Hid (∀ j, j < k + 1 → cxRow xs j = false) := by
                    intro j hj
                    rcases Nat.lt_or_ge j k with h | h
                    · exact hok.out j h
                    · obtain rfl : j = k := by omega
                      have := hno.out
                      rw [take_all _ _ (by rw [Hrl.out]; omega)] at this
                      unfold cxRow
                      rw [Hgx.out, Int.toNat_natCast]
                      exact this
                  go_wp2
                  go_round
                  case rel => exact ⟨k + 1, by omega, by go_num, Hok2⟩
                  case measure => simp [intOf]; omega
          · have H := hide (isCx_mk ⟨hn1, hn2⟩ Hall.out (rows_no (fun i hi => hok.out i (by omega))))
            go_wp2
            go_ret
            exact ⟨ret_bool H.out.symm, rfl⟩
  · have H := hide (isCx_n (xs := xs) hn)
    by_cases h1 : n < 1
    · go_enter Tryz.func60, Tryz.ntmps60
      go_wp2
      go_ret
      exact ⟨ret_bool H.out.symm, rfl⟩
    · have h2 : 6 < n := by omega
      clear hn
      go_enter Tryz.func60, Tryz.ntmps60
      go_wp2
      go_ret
      exact ⟨ret_bool H.out.symm, rfl⟩

theorem isComplexI (n : Int) (v : Value) (xs : List Int) (w : World) (h : IntsAt w w.heap.size v xs) (hl : xs.length ≤ 1073741824) :
    Calls Tryz.prog 24 #[.agg #[.int .i64 n, v]] w fun e w' => RetB w (isCx n xs) e w' := by
  have ha := ReadsV.alloc h (.cells #[.int .i64 n, v] 26)
  obtain ⟨A, c, rfl⟩ := reads_shape h
  go_enter Tryz.func24, Tryz.ntmps24
  go_wp2_with fail
  refine (isAntichainI n _ xs _ ha hl).mono ?_
  rintro e w1 ⟨rfl, rfl⟩
  go_wp2
  go_ret
  exact ⟨rfl, below_alloc _ _⟩

theorem cxNo_snoc {xs : List Int} {k i : Nat} {x a : Int} (ha : xs[i]? = some a) (hik : i < k) (h : ((xs.take k).take i).all (fun a => !sub a.toNat x.toNat) = true) :
    ((xs.take k).take (i + 1)).all (fun a => !sub a.toNat x.toNat) = !sub a.toNat x.toNat := by
  have hi : (xs.take k)[i]? = some a := by
    rw [List.getElem?_take, if_pos hik]
    exact ha
  rw [take_snoc _ _ _ hi, List.all_append, h]
  simp
def andBitX (s t : Nat) : Bool := (bits BinOp.and IntKind.i64 (s : Int) (t : Int) == (s : Int)) == sub s t
theorem andBitX_all : ((List.range 64).all fun s => (List.range 64).all fun t => andBitX s t) = true := by decide +kernel
theorem and_bitX {s t : Nat} (hs : s < 64) (ht : t < 64) : (bits BinOp.and IntKind.i64 (s : Int) (t : Int) == (s : Int)) = sub s t := by
  have h1 := List.all_eq_true.1 (List.all_eq_true.1 andBitX_all s (List.mem_range.2 hs)) t (List.mem_range.2 ht)
  unfold andBitX at h1
  simpa using h1
theorem bound64 {x : Int} (h : 0 ≤ x ∧ x < 64) : x ≤ 9223372036854775807 := by omega

theorem isComplexS (n : Int) (v : Value) (xs : List Int) (w : World) (h : IntsAt w w.heap.size v xs) (hl : xs.length ≤ 1073741824) :
    Calls Tryz.prog 25 #[.agg #[.int .i64 n, v]] w fun e w' => RetB w (isCx n xs) e w' := by
  have ha := ReadsV.alloc' h (Nat.le_refl _) (.cells #[.int .i64 n, v] 26)
  have hw0 : Below w.heap.size w (w.alloc (.cells #[.int .i64 n, v] 26)) := below_alloc _ _
  have e0 : (w.alloc (.cells #[.int .i64 n, v] 26)).cell? ⟨w.heap.size, 0, none⟩ = some (.int .i64 n) := World.cell?_alloc_at _ _ _ _ rfl
  have e1 : (w.alloc (.cells #[.int .i64 n, v] 26)).cell? ⟨w.heap.size, 1, none⟩ = some v := World.cell?_alloc_at _ _ _ _ rfl
  obtain ⟨A, c, rfl, hcap, he⟩ := form_ ha
  have He := hide he
  have Hw0 := hide hw0
  clear h he ha hw0
  generalize hW : w.alloc (.cells #[.int .i64 n, .slice A xs.length c] 26) = W at He Hw0 e0 e1
  go_enter Tryz.func25, Tryz.ntmps25
  go_wp2_with fail
  clear hW
  go_loopw [3] (fun i wr => ∃ k q : Nat, k ≤ xs.length ∧ i = .int .i64 k ∧ wr = W.drewN q ∧ Hid ((∀ j, j < k → cxFirst n xs j = true) ∧ (∀ j, j < k → cxNo xs j = true))) (fun i _ => xs.length - (intOf i).toNat)
  case atStart => exact ⟨0, 0, by omega, rfl, rfl, fun j hj => by omega, fun j hj => by omega⟩
  case round =>
    obtain ⟨k, q, hk, rfl, rfl, hok⟩ := hrel
    by_cases hlt : k < xs.length
    · obtain ⟨b, o, x, rfl, hb, hx, hcx⟩ := He.out k hlt
      have Hx := hide hx
      have Hgx := hide (getD_of hx)
      clear hx
      cases hset : isSetB n x
      · have H := hide (isCx_first hlt (show cxFirst n xs k = false by unfold cxFirst; rw [Hgx.out, hset]; rfl))
        go_wp2
        go_quiet ((go_at_call 46; exact quiet_add_left (isSetS _ _ _)))
        go_wp2
        go_ret
        exact ⟨ret_bool H.out.symm, below_drewN (below_drewN Hw0.out _) _⟩
      · have Hxs := hide (isSetB_64 hset)
        have hxb := hide (bound64 Hxs.out)
        by_cases hk0 : 0 < k
        · obtain ⟨b', o', y, hA, hb', hy, hcy⟩ := He.out (k - 1) (by omega)
          cases hA
          have Hgy := hide (getD_of hy)
          have Hys := hide (isSetB_64 (cxFirst_set hy (hok.out.1 (k - 1) (by omega))))
          have hyb := hide (bound64 Hys.out)
          have hk0e : decide ((0 : Int) < (k : Int)) = true := by simp; omega
          clear hy hb'
          cases hbf : beforeI y x
          · have H := hide (isCx_first hlt (show cxFirst n xs k = false by
              unfold cxFirst
              rw [Hgx.out, Hgy.out, hbf]
              have : (k == 0) = false := by simp; omega
              simp [this]))
            go_wp2
            go_quiet ((first | (go_at_call 46; exact quiet_add_left (isSetS _ _ _)) | (go_at_call 61; exact quiet_add_left (l2BeforeS _ _ _ hyb.out hxb.out))))
            go_wp2
            go_ret
            exact ⟨ret_bool H.out.symm, below_drewN (below_drewN Hw0.out _) _⟩
          · have Hfirst : Hid (∀ j, j < k + 1 → cxFirst n xs j = true) := by
              intro j hj
              rcases Nat.lt_or_ge j k with h | h
              · exact hok.out.1 j h
              · obtain rfl : j = k := by omega
                unfold cxFirst
                rw [Hgx.out, Hgy.out, hbf, hset]
                simp
            obtain ⟨s, rfl⟩ := Int.eq_ofNat_of_zero_le Hxs.out.1
            have hs64 : s < 64 := by have := Hxs.out.2; omega
            have Hr : Hid (∀ (i : Nat), i < k → ∃ t : Nat, xs[i]? = some (t : Int) ∧ W.cell? ⟨b, o + i, none⟩ = some (.int .i64 (t : Int)) ∧ t < 64) := by
              intro i hi
              obtain ⟨b', o', y, hA, hb', hy, hcy⟩ := He.out i (by omega)
              cases hA
              obtain ⟨h0, h1⟩ := isSetB_64 (cxFirst_set hy (hok.out.1 i hi))
              obtain ⟨t, rfl⟩ := Int.eq_ofNat_of_zero_le h0
              exact ⟨t, hy, hcy, by omega⟩
            have hdk : decide ((k : Int) < (xs.length : Int)) = true := by simp; omega
            go_wp2
            go_quiet ((first | (go_at_call 46; exact quiet_add_left (isSetS _ _ _)) | (go_at_call 61; exact quiet_add_left (l2BeforeS _ _ _ hyb.out hxb.out))))
            clear hk0e
            go_wp2
            go_loopw [4] (fun i wr => ∃ m q : Nat, m ≤ k ∧ i = .int .i64 m ∧ wr = W.drewN q ∧ Hid (((xs.take k).take m).all (fun a => !sub a.toNat ((s : Int)).toNat) = true)) (fun i _ => k - (intOf i).toNat)
            case atStart => exact ⟨0, _, by omega, rfl, World.drewN_drewN .., by simp [Hid]⟩
            case round =>
              obtain ⟨m, q2, hm, rfl, rfl, hno⟩ := hrel
              by_cases hmk : m < k
              · obtain ⟨t, ht, hct, ht64⟩ := Hr.out m hmk
                have hab := and_bitX ht64 hs64
                have Hsn := hide (cxNo_snoc (x := (s : Int)) ht hmk hno.out)
                have Ht := hide ht
                clear ht
                cases hsub : sub t s
                · rw [hsub] at hab
                  have Hn2 : Hid (((xs.take k).take (m + 1)).all (fun a => !sub a.toNat ((s : Int)).toNat) = true) := by show _ = _; rw [Hsn.out, Int.toNat_natCast, Int.toNat_natCast, hsub]; rfl
                  clear hsub
                  go_wp2
                  go_quiet (fail)
                  go_wp2
                  go_roundw
                  case rel => exact ⟨m + 1, _, by omega, by go_num, rfl, Hn2⟩
                  case measure => simp [intOf]; omega
                · rw [hsub] at hab
                  have H := hide (isCx_no (n := n) hlt (show cxNo xs k = false by
                    unfold cxNo
                    rw [Hgx.out, ← List.take_append_drop (m + 1) (xs.take k), List.all_append, Hsn.out, Int.toNat_natCast, Int.toNat_natCast, hsub]
                    rfl))
                  clear hsub
                  go_wp2
                  go_quiet (fail)
                  go_wp2
                  go_ret
                  exact ⟨ret_bool H.out.symm, below_drewN (below_drewN Hw0.out _) _⟩
              · have Hno2 : Hid (∀ j, j < k + 1 → cxNo xs j = true) := by
                  intro j hj
                  rcases Nat.lt_or_ge j k with h | h
                  · exact hok.out.2 j h
                  · obtain rfl : j = k := by omega
                    unfold cxNo
                    rw [Hgx.out]
                    have := hno.out
                    rwa [take_all _ _ (by rw [List.length_take]; omega)] at this
                go_wp2
                go_roundw
                case rel => exact ⟨k + 1, _, by omega, by go_num, rfl, Hfirst.out, Hno2.out⟩
                case measure => simp [intOf]; omega
        · obtain rfl : k = 0 := by omega
          simp only [Nat.add_zero] at hcx
          have Hfirst : Hid (∀ j, j < 0 + 1 → cxFirst n xs j = true) := by
            intro j hj
            obtain rfl : j = 0 := by omega
            unfold cxFirst
            rw [Hgx.out, hset]
            rfl
          have Hno2 : Hid (∀ j, j < 0 + 1 → cxNo xs j = true) := by
            intro j hj
            obtain rfl : j = 0 := by omega
            rfl
          go_wp2
          go_quiet ((go_at_call 46; exact quiet_add_left (isSetS _ _ _)))
          go_wp2
          refine wp_loop_rounds 1 ?_
          rw [rounds_succ]
          go_wp2
          go_roundw
          case rel => exact ⟨0 + 1, _, by omega, by go_num, rfl, Hfirst.out, Hno2.out⟩
          case measure => simp [intOf]; omega
    · have Hall := hide (fun (hn : 1 ≤ n ∧ n ≤ 6) => isCx_mk hn (fun j hj => hok.out.1 j (by omega)) (fun j hj => hok.out.2 j (by omega)))
      go_wp2_with fail
      refine (l1InS _ _ _ _).mono ?_
      rintro e w' ⟨rfl, rfl⟩
      go_wp2
      go_ret
      refine ⟨ret_bool ?_, below_drewN Hw0.out _⟩
      by_cases hn : 1 ≤ n ∧ n ≤ 6
      · rw [Hall.out hn]
        exact inB_mk hn
      · rw [isCx_n hn]
        exact inB_no hn
end

/- Walks: what is read off the facets of a complex: IsSimplex, UsedPoints, ConePoints, DegreeOf, IsPure. -/
section
open Go.RowKit

/-- The facets of a complex, at hand: cells and bounds. -/
theorem cxElems {n : Int} {xs : List Int} {w : World} {B : Nat} {v : Value} (h : IntsAt w B v xs) (hcx : isCx n xs = true) : ∀ k, k < xs.length → ∃ (b o s : Nat), (∃ c, v = .slice (some ⟨b, o, none⟩) xs.length c) ∧ xs[k]? = some (s : Int) ∧ s < 64 ∧ w.cell? ⟨b, o + k, none⟩ = some (.int .i64 (s : Int)) := by
  intro k hk
  obtain ⟨A, c, rfl, _, he⟩ := form_ h
  obtain ⟨b, o, x, rfl, _, hx, hc⟩ := he k hk
  obtain ⟨h0, h1⟩ := isCx_sets hcx x (List.mem_of_getElem? hx)
  obtain ⟨s, rfl⟩ := Int.eq_ofNat_of_zero_le h0
  exact ⟨b, o, s, ⟨_, rfl⟩, hx, by omega, hc⟩

/-! ### UsedPoints -/
def orAll (xs : List Int) : Nat := xs.foldl (fun a x => a ||| x.toNat) 0
theorem orAll_snoc (xs : List Int) (x : Int) : orAll (xs ++ [x]) = orAll xs ||| x.toNat := by simp [orAll]
def usedOf (n : Int) (xs : List Int) : Int := if isCx n xs then (orAll xs : Int) else 0
end

/- Walks: what is read off the facets of a complex, more: IsSimplex, ConePoints, DegreeOf, IsPure. Printed by gen/w11.py. -/
section
open Go.RowKit

/-! ### ConePoints -/
def andAll (m : Nat) (xs : List Int) : Nat := xs.foldl (fun a x => a &&& x.toNat) m
theorem andAll_snoc (m : Nat) (xs : List Int) (x : Int) : andAll m (xs ++ [x]) = andAll m xs &&& x.toNat := by simp [andAll]
def coneOf (n : Int) (xs : List Int) : Int := if isCx n xs then (match xs with | [] => 0 | x :: _ => (andAll x.toNat xs : Int)) else 0
theorem coneOf_yes {n : Int} {xs : List Int} (h : isCx n xs = true) {m : Nat} (h0 : xs[0]? = some (m : Int)) : coneOf n xs = (andAll m xs : Int) := by
  cases xs with
  | nil => simp at h0
  | cons y ys =>
    simp at h0
    subst h0
    simp [coneOf, h]
theorem coneOf_nil {n : Int} {xs : List Int} (h : xs.length ≤ 0) : coneOf n xs = 0 := by
  obtain rfl : xs = [] := List.eq_nil_of_length_eq_zero (by omega)
  unfold coneOf
  split <;> rfl
theorem andAll_one {m : Nat} {xs : List Int} (h0 : xs[0]? = some (m : Int)) : andAll m (xs.take 1) = m := by
  rw [take_snoc _ 0 _ h0]
  simp [andAll]

/-! ### DegreeOf -/
def degTo (s : Nat) (xs : List Int) : Nat := xs.countP (fun x => sub s x.toNat)
theorem degTo_snoc (s : Nat) (xs : List Int) (x : Int) : degTo s (xs ++ [x]) = degTo s xs + if sub s x.toNat then 1 else 0 := by
  unfold degTo
  rw [List.countP_append]
  simp [List.countP_cons]
theorem degTo_le (s : Nat) (xs : List Int) : degTo s xs ≤ xs.length := List.countP_le_length
def degOf (n s : Int) (xs : List Int) : Int := if isCx n xs && decide (0 ≤ s ∧ s < 64) then (degTo s.toNat xs : Int) else -1
theorem degOf_no1 {n s : Int} {xs : List Int} (h : isCx n xs = false) : degOf n s xs = -1 := by simp [degOf, h]
theorem degOf_no2 {n s : Int} {xs : List Int} (h : ¬ (0 ≤ s ∧ s < 64)) : degOf n s xs = -1 := by
  unfold degOf
  rw [decide_eq_false h]
  simp
theorem degOf_yes {n : Int} {s : Nat} {xs : List Int} (h : isCx n xs = true) (hs : s < 64) : degOf n (s : Int) xs = (degTo s xs : Int) := by
  unfold degOf
  rw [h, decide_eq_true (by omega : (0 : Int) ≤ (s : Int) ∧ (s : Int) < 64)]
  simp
theorem isSetB6 {s : Int} : isSetB 6 s = decide (0 ≤ s ∧ s < 64) := by
  unfold isSetB
  simp
def andBitY (s t : Nat) : Bool := (bits BinOp.and IntKind.i64 (t : Int) (s : Int) == (s : Int)) == sub s t
theorem andBitY_all : ((List.range 64).all fun s => (List.range 64).all fun t => andBitY s t) = true := by decide +kernel
theorem and_bitY {s t : Nat} (hs : s < 64) (ht : t < 64) : (bits BinOp.and IntKind.i64 (t : Int) (s : Int) == (s : Int)) = sub s t := by
  have h1 := List.all_eq_true.1 (List.all_eq_true.1 andBitY_all s (List.mem_range.2 hs)) t (List.mem_range.2 ht)
  unfold andBitY at h1
  simpa using h1
end
end Go.Proofs.YtmkacjpjcfffmabGreatDoor
