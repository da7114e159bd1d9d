/- Plain laws: sets of at most six points as numbers below 64, families of such sets. No program is named here. -/
import Derived.Test.YtmkacjpjcfffmaaDoorMathTxt
namespace Go.Proofs.YtmkacjpjcfffmaaDoor

/-- How many bits a number has that are one. -/
def pcF : Nat → Nat → Nat
  | 0, _ => 0
  | f + 1, s => if s = 0 then 0 else s % 2 + pcF f (s / 2)
def pc (s : Nat) : Nat := pcF s s
theorem pcF_fuel : ∀ (f g k : Nat), k ≤ f → k ≤ g → pcF f k = pcF g k := by
  intro f
  induction f with
  | zero =>
    intro g k h _
    have : k = 0 := by omega
    subst this
    cases g <;> simp [pcF]
  | succ f ih =>
    intro g k hf hg
    by_cases h0 : k = 0
    · subst h0
      cases g <;> simp [pcF]
    · cases g with
      | zero => omega
      | succ g =>
        simp only [pcF, if_neg h0]
        rw [ih g (k / 2) (by omega) (by omega)]
theorem pc_zero : pc 0 = 0 := rfl
theorem pc_pos {k : Nat} (h : 0 < k) : pc k = k % 2 + pc (k / 2) := by
  unfold pc
  cases k with
  | zero => omega
  | succ n =>
    rw [pcF, if_neg (by omega), pcF_fuel n ((n + 1) / 2) ((n + 1) / 2) (by omega) (Nat.le_refl _)]
theorem pcF_le : ∀ f k, pcF f k ≤ f := by
  intro f
  induction f with
  | zero => intro k; simp [pcF]
  | succ f ih =>
    intro k
    simp only [pcF]
    split
    · omega
    · have := ih (k / 2)
      omega
theorem pc_le (k : Nat) : pc k ≤ k := pcF_le k k
theorem pc_bits : ∀ n k, k < 2 ^ n → pc k ≤ n := by
  intro n
  induction n with
  | zero => intro k h; have : k = 0 := by omega
            subst this; decide
  | succ n ih =>
    intro k h
    by_cases h0 : 0 < k
    · rw [pc_pos h0]
      have := ih (k / 2) (by rw [Nat.pow_succ] at h; omega)
      omega
    · have : k = 0 := by omega
      subst this
      rw [pc_zero]
      omega
theorem pc_le6 : ∀ s, s < 64 → pc s ≤ 6 := by decide +kernel

/-- The set a lies in the set b. -/
def sub (a b : Nat) : Bool := a &&& b == a
/-- The order: by size, then by number. -/
def before (a b : Nat) : Bool := decide (pc a < pc b) || (pc a == pc b && decide (a < b))
/-- The sets of k points that a family has, by number. -/
def layer (P : Nat → Bool) (k : Nat) : List Nat := (List.range 64).filter fun s => P s && pc s == k
/-- The sets of a family in order. -/
def listOf (P : Nat → Bool) : List Nat := (List.range 7).flatMap fun k => layer P k
theorem layer_congr {P Q : Nat → Bool} (h : ∀ s, s < 64 → P s = Q s) (k : Nat) : layer P k = layer Q k := by
  unfold layer
  apply List.filter_congr
  intro s hs
  rw [h s (List.mem_range.1 hs)]
theorem listOf_congr {P Q : Nat → Bool} (h : ∀ s, s < 64 → P s = Q s) : listOf P = listOf Q := by
  unfold listOf
  congr 1
  funext k
  exact layer_congr h k
theorem mem_layer {P : Nat → Bool} {k s : Nat} : s ∈ layer P k ↔ s < 64 ∧ P s = true ∧ pc s = k := by
  simp [layer]
theorem mem_listOf {P : Nat → Bool} {s : Nat} : s ∈ listOf P ↔ s < 64 ∧ P s = true := by
  simp only [listOf, List.mem_flatMap, List.mem_range, mem_layer]
  constructor
  · rintro ⟨k, _, h1, h2, _⟩
    exact ⟨h1, h2⟩
  · rintro ⟨h1, h2⟩
    exact ⟨pc s, by have := pc_le6 s h1; omega, h1, h2, rfl⟩
theorem layer_len (P : Nat → Bool) (k : Nat) : (layer P k).length ≤ 64 := by
  have := List.length_filter_le (fun s => P s && pc s == k) (List.range 64)
  simpa [layer] using this
/-- A number whose bits are a family. -/
def fam (P : Nat → Bool) : Nat := (List.range 64).foldl (fun a s => if P s then a ||| 2 ^ s else a) 0
def famTo (P : Nat → Bool) (k : Nat) : Nat := (List.range k).foldl (fun a s => if P s then a ||| 2 ^ s else a) 0
theorem famTo_succ (P : Nat → Bool) (k : Nat) : famTo P (k + 1) = if P k then famTo P k ||| 2 ^ k else famTo P k := by
  simp [famTo, List.range_succ]
theorem famTo_bit (P : Nat → Bool) : ∀ k s, (famTo P k).testBit s = (decide (s < k) && P s) := by
  intro k
  induction k with
  | zero => intro s; simp [famTo]
  | succ k ih =>
    intro s
    rw [famTo_succ]
    by_cases hp : P k = true
    · rw [if_pos hp, Nat.testBit_or, ih, Nat.testBit_two_pow]
      by_cases h : k = s
      · subst h; simp [hp]
      · have : decide (s < k + 1) = decide (s < k) := decide_eq_decide.2 (by omega)
        simp [h, this]
    · rw [if_neg hp, ih]
      by_cases h : s = k
      · subst h; simp [hp]
      · have : decide (s < k + 1) = decide (s < k) := decide_eq_decide.2 (by omega)
        rw [this]
theorem fam_bit (P : Nat → Bool) (s : Nat) : (fam P).testBit s = (decide (s < 64) && P s) := famTo_bit P 64 s
theorem famTo_lt (P : Nat → Bool) (k : Nat) : famTo P k < 2 ^ k := by
  apply Nat.lt_pow_two_of_testBit
  intro i hi
  rw [famTo_bit]
  simp
  omega
theorem fam_lt (P : Nat → Bool) : fam P < 18446744073709551616 := famTo_lt P 64
theorem fam_eq {P : Nat → Bool} {F : Nat} (hF : F < 18446744073709551616) (h : ∀ s, s < 64 → F.testBit s = P s) : F = fam P := by
  apply Nat.eq_of_testBit_eq
  intro i
  rw [fam_bit]
  by_cases hi : i < 64
  · rw [h i hi]; simp [hi]
  · have : F < 2 ^ i := Nat.lt_of_lt_of_le hF (Nat.pow_le_pow_right (n := 2) (by omega) (show 64 ≤ i by omega))
    rw [Nat.testBit_lt_two_pow this]; simp [hi]
theorem fam_congr {P Q : Nat → Bool} (h : ∀ s, s < 64 → P s = Q s) : fam P = fam Q :=
  fam_eq (fam_lt P) (fun s hs => by rw [fam_bit, h s hs]; simp [hs])
theorem fam_or (P Q : Nat → Bool) : fam P ||| fam Q = fam (fun s => P s || Q s) :=
  fam_eq (Nat.or_lt_two_pow (n := 64) (fam_lt P) (fam_lt Q)) (fun s hs => by rw [Nat.testBit_or, fam_bit, fam_bit]; simp [hs])
theorem fam_and (P Q : Nat → Bool) : fam P &&& fam Q = fam (fun s => P s && Q s) :=
  fam_eq (Nat.and_lt_two_pow (n := 64) _ (fam_lt Q)) (fun s hs => by rw [Nat.testBit_and, fam_bit, fam_bit]; simp [hs])
theorem fam_zero : fam (fun _ => false) = 0 := by decide +kernel

/-- Numbers as ints. -/
abbrev zs (l : List Nat) : List Int := l.map (fun (n : Nat) => (n : Int))
theorem zs_snoc (l : List Nat) (n : Nat) : zs (l ++ [n]) = zs l ++ [(n : Int)] := by simp [zs]
theorem zs_append (l r : List Nat) : zs (l ++ r) = zs l ++ zs r := by simp [zs]
/-- Of the layer k the sets below s. -/
def layTo (P : Nat → Bool) (k s : Nat) : List Nat := (List.range s).filter fun t => P t && pc t == k
theorem layTo_yes {P : Nat → Bool} {k s : Nat} (h : P s = true) (hk : pc s = k) : layTo P k (s + 1) = layTo P k s ++ [s] := by simp [layTo, List.range_succ, h, hk]
theorem layTo_no {P : Nat → Bool} {k s : Nat} (h : ¬ (P s = true ∧ pc s = k)) : layTo P k (s + 1) = layTo P k s := by
  have : (P s && pc s == k) = false := by
    cases hp : P s
    · simp
    · have : ¬ pc s = k := fun e => h ⟨hp, e⟩
      simp [this]
  simp [layTo, List.range_succ, this]
theorem layTo_len (P : Nat → Bool) (k s : Nat) : (layTo P k s).length ≤ s := by
  have := List.length_filter_le (fun t => P t && pc t == k) (List.range s)
  simpa [layTo] using this
theorem layTo_all (P : Nat → Bool) (k : Nat) : layTo P k 64 = layer P k := rfl
/-- The layers below k. -/
def lows (P : Nat → Bool) (k : Nat) : List Nat := (List.range k).flatMap fun j => layer P j
theorem lows_succ (P : Nat → Bool) (k : Nat) : lows P (k + 1) = lows P k ++ layer P k := by simp [lows, List.range_succ]
theorem lows_all (P : Nat → Bool) : lows P 7 = listOf P := rfl
theorem lows_len (P : Nat → Bool) : ∀ k, (lows P k).length ≤ 64 * k := by
  intro k
  induction k with
  | zero => simp [lows]
  | succ k ih =>
    rw [lows_succ, List.length_append]
    have := layer_len P k
    omega
theorem listOf_len (P : Nat → Bool) : (listOf P).length ≤ 448 := lows_len P 7

/-! ### families out of lists, subsets of a set -/
theorem fam_add (P : Nat → Bool) (m : Nat) (h : m < 64) : fam P ||| 2 ^ m = fam (fun s => P s || s == m) := by
  apply fam_eq
  · exact Nat.or_lt_two_pow (n := 64) (fam_lt P) (Nat.pow_lt_pow_right (by omega) h)
  · intro s hs
    rw [Nat.testBit_or, fam_bit, Nat.testBit_two_pow]
    have : decide (m = s) = (s == m) := by
      by_cases e : m = s
      · subst e; simp
      · simp [e]; omega
    simp [hs, this]
/-- The numbers that a list of ints has. -/
def inList (xs : List Int) (s : Nat) : Bool := xs.contains (s : Int)
theorem inList_snoc (xs : List Int) (m s : Nat) : inList (xs ++ [(m : Int)]) s = (inList xs s || s == m) := by
  unfold inList
  rw [Bool.eq_iff_iff]
  have h : ((s : Int) = (m : Int)) ↔ s = m := by omega
  simp only [List.contains_eq_mem, List.mem_append, List.mem_singleton, decide_eq_true_eq, Bool.or_eq_true, beq_iff_eq, h]
/-- All of a list are sets of six points. -/
def allSets (xs : List Int) : Bool := xs.all (fun x => decide (0 ≤ x ∧ x < 64))
theorem allSets_snoc (xs : List Int) (x : Int) : allSets (xs ++ [x]) = (allSets xs && decide (0 ≤ x ∧ x < 64)) := by simp [allSets]
theorem allSets_at {xs : List Int} (h : allSets xs = true) {x : Int} (hx : x ∈ xs) : 0 ≤ x ∧ x < 64 := by
  have := List.all_eq_true.1 h x hx
  simpa using this
theorem allSets_take_false {xs : List Int} {k : Nat} (h : allSets (xs.take k) = false) : allSets xs = false := by
  rw [← List.take_append_drop k xs]
  unfold allSets at h ⊢
  rw [List.all_append, h]
  rfl
/-- The family of a list: its number, 0 where one of the list is no set. -/
def famList (xs : List Int) : Nat := fam (inList xs)
theorem famList_nil : famList [] = 0 := by decide +kernel
def famRes (xs : List Int) : Nat := if allSets xs then famList xs else 0
theorem famRes_yes {xs : List Int} (h : allSets xs = true) : famRes xs = famList xs := by simp [famRes, h]
theorem famRes_no {xs : List Int} (h : allSets xs = false) : famRes xs = 0 := by simp [famRes, h]
def prevOk (s t : Nat) : Bool := !(sub t s && decide (0 < t)) || (sub ((t - 1) &&& s) s && decide (((t - 1) &&& s) < t) && (List.range 64).all fun u => !(sub u s && decide (u < t)) || decide (u ≤ ((t - 1) &&& s)))
theorem prevOk_all : ((List.range 64).all fun s => (List.range 64).all fun t => prevOk s t) = true := by decide +kernel
theorem prev_sub {s t : Nat} (hs : s < 64) (ht : t < 64) (h : sub t s = true) (h0 : 0 < t) : sub ((t - 1) &&& s) s = true ∧ ((t - 1) &&& s) < t ∧ ∀ u, u < 64 → sub u s = true → u < t → u ≤ ((t - 1) &&& s) := by
  have h1 := List.all_eq_true.1 (List.all_eq_true.1 prevOk_all s (List.mem_range.2 hs)) t (List.mem_range.2 ht)
  unfold prevOk at h1
  rw [h, decide_eq_true h0] at h1
  simp only [Bool.and_self, Bool.not_true, Bool.false_or, Bool.and_eq_true, decide_eq_true_eq] at h1
  refine ⟨h1.1.1, h1.1.2, fun u hu hus hut => ?_⟩
  have h2 := List.all_eq_true.1 h1.2 u (List.mem_range.2 hu)
  rw [hus, decide_eq_true hut] at h2
  simpa using h2
theorem above_step {s t : Nat} (hs : s < 64) (ht : t < 64) (h : sub t s = true) (h0 : 0 < t) : fam (fun u => sub u s && decide (t < u) || u == t) = fam (fun u => sub u s && decide (((t - 1) &&& s) < u)) := by
  obtain ⟨p1, p2, p3⟩ := prev_sub hs ht h h0
  apply fam_congr
  intro u hu
  rw [Bool.eq_iff_iff]
  simp only [Bool.or_eq_true, Bool.and_eq_true, decide_eq_true_eq, beq_iff_eq]
  constructor
  · rintro (⟨a, b⟩ | rfl)
    · exact ⟨a, by omega⟩
    · exact ⟨h, p2⟩
  · rintro ⟨a, b⟩
    rcases Nat.lt_trichotomy u t with c | c | c
    · have := p3 u hu a c
      omega
    · exact .inr c
    · exact .inl ⟨a, c⟩
theorem above_all {s : Nat} : fam (fun u => sub u s && decide (0 < u) || u == 0) = fam (fun u => sub u s) := by
  apply fam_congr
  intro u _
  rw [Bool.eq_iff_iff]
  simp only [Bool.or_eq_true, Bool.and_eq_true, decide_eq_true_eq, beq_iff_eq]
  constructor
  · rintro (⟨a, _⟩ | rfl)
    · exact a
    · simp [sub]
  · intro a
    rcases Nat.eq_zero_or_pos u with c | c
    · exact .inr c
    · exact .inl ⟨a, c⟩
theorem above_start {s : Nat} (_hs : s < 64) : fam (fun u => sub u s && decide (s < u)) = 0 := by
  rw [← fam_zero]
  apply fam_congr
  intro u _
  rw [Bool.eq_false_iff]
  intro h
  simp only [Bool.and_eq_true, decide_eq_true_eq] at h
  have h1 : u &&& s = u := by simpa [sub] using h.1
  have h2 : u &&& s ≤ s := Nat.and_le_right
  omega
theorem sub_refl (s : Nat) : sub s s = true := by simp [sub]
theorem sub_le {a b : Nat} (h : sub a b = true) : a ≤ b := by
  have h1 : a &&& b = a := by simpa [sub] using h
  have h2 : a &&& b ≤ b := Nat.and_le_right
  omega
end Go.Proofs.YtmkacjpjcfffmaaDoor
