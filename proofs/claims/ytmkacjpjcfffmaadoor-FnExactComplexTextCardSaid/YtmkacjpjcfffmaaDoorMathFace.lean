/- Plain laws: faces; the greatest sets of a family hang on its down-closure alone. No program is named here. -/
import Derived.Test.YtmkacjpjcfffmaaDoorMathCx
import Derived.Test.YtmkacjpjcfffmaaDoorW5
namespace Go.Proofs.YtmkacjpjcfffmaaDoor

theorem sub_self (s : Nat) : sub s s = true := sub_refl s
theorem sub_iff {a b : Nat} : sub a b = true ↔ a &&& b = a := by simp [sub]
theorem sub_trans2 {a b c : Nat} (h : sub a b = true) (k : sub b c = true) : sub a c = true := by
  rw [sub_iff] at *
  rw [← h, Nat.and_assoc, k]
theorem sub_anti {a b : Nat} (h : sub a b = true) (k : sub b a = true) : a = b := Nat.le_antisymm (sub_le h) (sub_le k)
theorem sub_pcle {s t : Nat} (hs : s < 64) (ht : t < 64) (h : sub s t = true) : pc s ≤ pc t := by
  by_cases e : t = s
  · rw [e]; exact Nat.le_refl _
  · exact Nat.le_of_lt (sub_pc hs ht h e)

theorem layer_filter (P Q : Nat → Bool) (k : Nat) : (layer P k).filter Q = layer (fun s => P s && Q s) k := by
  unfold layer
  rw [List.filter_filter]
  apply List.filter_congr
  intro s _
  cases hp : P s <;> cases hq : Q s <;> simp [hp, hq]
theorem listOf_filter (P Q : Nat → Bool) : (listOf P).filter Q = listOf (fun s => P s && Q s) := by
  unfold listOf
  rw [List.filter_flatMap]
  congr 1
  funext k
  exact layer_filter P Q k
theorem maxOf_eq (P : Nat → Bool) : maxOf P = listOf (fun s => P s && keepMax (listOf P) s) := listOf_filter P _
theorem keepMax_iff {P : Nat → Bool} {s : Nat} : keepMax (listOf P) s = true ↔ ∀ t, t < 64 → P t = true → sub s t = true → t = s := by
  unfold keepMax
  rw [List.all_eq_true]
  constructor
  · intro h t ht hp hs
    have := h t (mem_listOf.2 ⟨ht, hp⟩)
    rw [hs] at this
    simpa using this
  · intro h t ht
    obtain ⟨h1, h2⟩ := mem_listOf.1 ht
    cases hs : sub s t
    · simp
    · simpa using h t h1 h2 hs
/-- s lies in a set of the family. -/
def Under (P : Nat → Bool) (s : Nat) : Prop := ∃ t, t < 64 ∧ P t = true ∧ sub s t = true
theorem maxOf_half {P Q : Nat → Bool} (h : ∀ s, s < 64 → (Under P s ↔ Under Q s)) {s : Nat} (hs : s < 64) (hp : P s = true ∧ keepMax (listOf P) s = true) : Q s = true ∧ keepMax (listOf Q) s = true := by
  obtain ⟨h1, h2⟩ := hp
  rw [keepMax_iff] at *
  obtain ⟨t, ht, hq, hst⟩ := (h s hs).1 ⟨s, hs, h1, sub_self s⟩
  obtain ⟨u, hu, hpu, htu⟩ := (h t ht).2 ⟨t, ht, hq, sub_self t⟩
  have hus := h2 u hu hpu (sub_trans2 hst htu)
  subst hus
  obtain rfl := sub_anti hst htu
  refine ⟨hq, fun v hv hqv hsv => ?_⟩
  obtain ⟨x, hx, hpx, hvx⟩ := (h v hv).2 ⟨v, hv, hqv, sub_self v⟩
  have := h2 x hx hpx (sub_trans2 hsv hvx)
  subst this
  exact sub_anti hvx hsv
/-- THE KEY: two families with the same down-closure have the same greatest sets. -/
theorem maxOf_under {P Q : Nat → Bool} (h : ∀ s, s < 64 → (Under P s ↔ Under Q s)) : maxOf P = maxOf Q := by
  rw [maxOf_eq, maxOf_eq]
  apply listOf_congr
  intro s hs
  rw [Bool.eq_iff_iff, Bool.and_eq_true, Bool.and_eq_true]
  exact ⟨maxOf_half h hs, maxOf_half (fun s hs => (h s hs).symm) hs⟩

/-! ### faces -/
def faceP (xs : List Int) (s : Nat) : Bool := xs.any (fun x => sub s x.toNat)
theorem faceP_nil : faceP [] = fun _ => false := by funext s; rfl
theorem faceP_snoc (xs : List Int) (x : Int) (s : Nat) : faceP (xs ++ [x]) s = (faceP xs s || sub s x.toNat) := by simp [faceP]
theorem or_fams (P Q : Nat → Bool) : bits BinOp.or IntKind.u64 (fam P : Int) (fam Q : Int) = ((fam (fun s => P s || Q s) : Nat) : Int) := by
  rw [u64_or_nat _ _ (fam_lt P) (fam_lt Q), fam_or]
theorem isSetB_sub {n x : Int} {s : Nat} (hx : isSetB n x = true) (h : sub s x.toNat = true) : isSetB n (s : Int) = true := by
  obtain ⟨h0, h1, h2, h3⟩ := isSetB_yes hx
  have := sub_le h
  exact isSetB_mk ⟨h0, h1, by omega, by omega⟩
theorem faceP_set {n : Int} {xs : List Int} {s : Nat} (hcx : isCx n xs = true) (h : faceP xs s = true) : isSetB n (s : Int) = true := by
  obtain ⟨x, hx, hs⟩ := List.any_eq_true.1 h
  exact isSetB_sub (isCx_fit hcx x hx) hs
def hasFaceOf (n : Int) (xs : List Int) (s : Int) : Bool := isCx n xs && decide (0 ≤ s ∧ s < 64) && faceP xs s.toNat

/-! ### the greatest size -/
def topTo (P : Nat → Bool) : Nat → Int
  | 0 => -1
  | k + 1 => if P k && decide (topTo P k < (pc k : Int)) then (pc k : Int) else topTo P k
theorem topTo_yes {P : Nat → Bool} {k : Nat} (h : P k = true) (h2 : topTo P k < (pc k : Int)) : topTo P (k + 1) = (pc k : Int) := by simp [topTo, h, h2]
theorem topTo_no {P : Nat → Bool} {k : Nat} (h : ¬ (P k = true ∧ topTo P k < (pc k : Int))) : topTo P (k + 1) = topTo P k := by
  show (if P k && decide (topTo P k < (pc k : Int)) then (pc k : Int) else topTo P k) = _
  rw [if_neg]
  rw [Bool.and_eq_true, decide_eq_true_eq]
  exact h
theorem topTo_ge (P : Nat → Bool) : ∀ k, -1 ≤ topTo P k ∧ topTo P k ≤ 6 ∨ 64 < k
  | 0 => .inl ⟨by show (-1 : Int) ≤ -1; omega, by show (-1 : Int) ≤ 6; omega⟩
  | k + 1 => by
    rcases topTo_ge P k with h | h
    · by_cases hk : k < 64
      · have := pc_le6 k hk
        left
        unfold topTo
        split <;> omega
      · right; omega
    · right; omega
theorem topTo_spec (P : Nat → Bool) : ∀ k, (∀ s, s < k → P s = true → (pc s : Int) ≤ topTo P k) ∧ (topTo P k = -1 ∨ ∃ s, s < k ∧ P s = true ∧ topTo P k = (pc s : Int))
  | 0 => ⟨fun s hs => by omega, .inl rfl⟩
  | k + 1 => by
    obtain ⟨h1, h2⟩ := topTo_spec P k
    by_cases hc : P k = true ∧ topTo P k < (pc k : Int)
    · rw [topTo_yes hc.1 hc.2]
      refine ⟨fun s hs hp => ?_, .inr ⟨k, by omega, hc.1, rfl⟩⟩
      rcases Nat.lt_or_ge s k with h | h
      · have := h1 s h hp; omega
      · obtain rfl : s = k := by omega
        omega
    · rw [topTo_no hc]
      refine ⟨fun s hs hp => ?_, ?_⟩
      · rcases Nat.lt_or_ge s k with h | h
        · exact h1 s h hp
        · obtain rfl : s = k := by omega
          exact Int.not_lt.1 (fun h => hc ⟨hp, h⟩)
      · rcases h2 with h | ⟨s, hs, h⟩
        · exact .inl h
        · exact .inr ⟨s, by omega, h⟩
def topOf (P : Nat → Bool) : Int := topTo P 64
/-- Facets grow in size. -/
theorem cx_mono {n : Int} {xs : List Int} (h : isCx n xs = true) : ∀ d k, k + d < xs.length → pc (xs.getD k 0).toNat ≤ pc (xs.getD (k + d) 0).toNat
  | 0, k, _ => Nat.le_refl _
  | d + 1, k, hk => by
    refine Nat.le_trans (cx_mono h d k (by omega)) ?_
    have h1 := (isCx_inv h).2.1 (k + (d + 1)) hk
    unfold cxFirst at h1
    rw [Bool.and_eq_true] at h1
    have h2 := h1.2
    rw [show (k + (d + 1) == 0) = false by simp, Bool.false_or, show k + (d + 1) - 1 = k + d by omega] at h2
    unfold beforeI at h2
    rw [Bool.or_eq_true, Bool.and_eq_true, decide_eq_true_eq, decide_eq_true_eq] at h2
    omega
/-- The greatest face's size is the last facet's. -/
theorem topOf_last {n : Int} {xs : List Int} (h : isCx n xs = true) {x : Int} (hx : xs[xs.length - 1]? = some x) : topOf (faceP xs) = (pc x.toNat : Int) := by
  have hl := (List.getElem?_eq_some_iff.1 hx).1
  have hx64 := isCx_sets h x (List.mem_of_getElem? hx)
  obtain ⟨h1, h2⟩ := topTo_spec (faceP xs) 64
  have hin : faceP xs x.toNat = true := List.any_eq_true.2 ⟨x, List.mem_of_getElem? hx, sub_self _⟩
  have hlo := h1 x.toNat (by omega) hin
  unfold topOf
  rcases h2 with h2 | ⟨s, hs, hp, h2⟩
  · omega
  · obtain ⟨y, hy, hsy⟩ := List.any_eq_true.1 hp
    have hy64 := isCx_sets h y hy
    have h3 := sub_pcle hs (by omega) hsy
    obtain ⟨j, hj, hje⟩ := List.mem_iff_getElem.1 hy
    have hyj : xs.getD j 0 = y := getD_of (List.getElem?_eq_some_iff.2 ⟨hj, hje⟩)
    have h4 := cx_mono h (xs.length - 1 - j) j (by omega)
    rw [hyj, show j + (xs.length - 1 - j) = xs.length - 1 by omega, getD_of hx] at h4
    omega
theorem topOf_nil : topOf (faceP []) = -1 := by
  rcases topTo_spec (faceP []) 64 with ⟨_, h | ⟨s, _, hp, _⟩⟩
  · exact h
  · simp [faceP] at hp
def dimOf (n : Int) (xs : List Int) : Int := if isCx n xs then topOf (faceP xs) - 1 else -2
theorem dimOf_last {n : Int} {xs : List Int} (h : isCx n xs = true) {x : Int} (hx : xs[xs.length - 1]? = some x) : dimOf n xs = (pc x.toNat : Int) - 1 := by
  unfold dimOf
  rw [h, topOf_last h hx]
  rfl
theorem dimOf_nil {n : Int} {xs : List Int} (h : isCx n xs = true) (hx : xs.length ≤ 0) : dimOf n xs = -2 := by
  obtain rfl : xs = [] := List.eq_nil_of_length_eq_zero (by omega)
  unfold dimOf
  rw [h, topOf_nil]
  rfl
theorem dimOf_no {n : Int} {xs : List Int} (h : isCx n xs = false) : dimOf n xs = -2 := by simp [dimOf, h]

/-! ### pure -/
def pureOf (n : Int) (xs : List Int) : Bool := isCx n xs && xs.all (fun x => pc x.toNat == pc (xs.getD 0 0).toNat)
theorem pureOf_no {n : Int} {xs : List Int} (h : isCx n xs = false) : pureOf n xs = false := by simp [pureOf, h]
theorem pureOf_bad {n : Int} {xs : List Int} {k : Nat} {x : Int} (hx : xs[k]? = some x) (h : (pc x.toNat == pc (xs.getD 0 0).toNat) = false) : pureOf n xs = false := by
  unfold pureOf
  rw [List.all_eq_false.2 ⟨x, List.mem_of_getElem? hx, by simpa using h⟩]
  simp
theorem pureOf_all {n : Int} {xs : List Int} (h : ∀ (k : Nat) x, k < xs.length → xs[k]? = some x → pc x.toNat = pc (xs.getD 0 0).toNat) : pureOf n xs = isCx n xs := by
  unfold pureOf
  rw [List.all_eq_true.2 (fun x hx => by
    obtain ⟨j, hj, hje⟩ := List.mem_iff_getElem.1 hx
    simpa using h j x hj (List.getElem?_eq_some_iff.2 ⟨hj, hje⟩))]
  simp
end Go.Proofs.YtmkacjpjcfffmaaDoor
