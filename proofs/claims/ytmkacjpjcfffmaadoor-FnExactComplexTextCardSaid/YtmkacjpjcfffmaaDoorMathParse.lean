/- Plain laws: what a complex's text is read as. No program is named here. -/
import Derived.Test.YtmkacjpjcfffmaaDoorMathSplit
import Derived.Test.YtmkacjpjcfffmaaDoorMathTxt
import Derived.Test.YtmkacjpjcfffmaaDoorMathCx
import Derived.Test.YtmkacjpjcfffmaaDoorW33
namespace Go.Proofs.YtmkacjpjcfffmaaDoor

theorem spTo_none (b : UInt8) (l : List UInt8) : ∀ k, (∀ i, i < k → l[i]? ≠ some b) → spTo b l k = ([], 0)
  | 0, _ => rfl
  | k + 1, h => by rw [spTo_miss b l k (h k (by omega)), spTo_none b l k (fun i hi => h i (by omega))]
theorem not_at {b : UInt8} {p : List UInt8} (h : b ∉ p) (i : Nat) : p[i]? ≠ some b := fun e => h (List.mem_of_getElem? e)
theorem splitB_none {b : UInt8} {l : List UInt8} (h : b ∉ l) : splitB b l = [l] := by
  unfold splitB
  rw [spTo_none b l l.length (fun i _ => not_at h i)]
  rfl
theorem spTo_cons {b : UInt8} {p q : List UInt8} (h : b ∉ p) : ∀ k, spTo b (p ++ b :: q) (p.length + 1 + k) = (p :: (spTo b q k).1, p.length + 1 + (spTo b q k).2)
  | 0 => by
    have h1 : (p ++ b :: q)[p.length]? = some b := by simp
    have h2 : spTo b (p ++ b :: q) p.length = ([], 0) := spTo_none _ _ _ (fun i hi => by
      rw [List.getElem?_append_left hi]
      exact not_at h i)
    rw [Nat.add_zero, spTo_hit _ _ _ h1, h2]
    simp [spTo]
  | k + 1 => by
    have ih := spTo_cons (q := q) h k
    have h1 : (p ++ b :: q)[p.length + 1 + k]? = q[k]? := by
      rw [List.getElem?_append_right (by omega), show p.length + 1 + k - p.length = k + 1 by omega]
      rfl
    by_cases hk : q[k]? = some b
    · rw [show p.length + 1 + (k + 1) = (p.length + 1 + k) + 1 by omega, spTo_hit _ _ _ (h1.trans hk), ih, spTo_hit _ _ _ hk]
      have hd : (p ++ b :: q).drop (p.length + 1 + (spTo b q k).2) = q.drop (spTo b q k).2 := by
        rw [List.drop_append, List.drop_eq_nil_of_le (by omega), show p.length + 1 + (spTo b q k).2 - p.length = (spTo b q k).2 + 1 by omega]
        rfl
      simp only [hd, List.cons_append, Prod.mk.injEq, List.cons.injEq, true_and]
      refine ⟨by rw [show p.length + 1 + k - (p.length + 1 + (spTo b q k).2) = k - (spTo b q k).2 by omega], by omega⟩
    · rw [show p.length + 1 + (k + 1) = (p.length + 1 + k) + 1 by omega, spTo_miss _ _ _ (fun e => hk (h1.symm.trans e)), ih, spTo_miss _ _ _ hk]
theorem splitB_cons {b : UInt8} {p q : List UInt8} (h : b ∉ p) : splitB b (p ++ b :: q) = p :: splitB b q := by
  unfold splitB
  have e : (p ++ b :: q).length = p.length + 1 + q.length := by simp; omega
  rw [e, spTo_cons h]
  have hd : (p ++ b :: q).drop (p.length + 1 + (spTo b q q.length).2) = q.drop (spTo b q q.length).2 := by
    rw [List.drop_append, List.drop_eq_nil_of_le (by omega), show p.length + 1 + (spTo b q q.length).2 - p.length = (spTo b q q.length).2 + 1 by omega]
    rfl
  simp only [hd, List.cons_append]
theorem spTo_part (b : UInt8) (l : List UInt8) : ∀ k, ∀ p ∈ (spTo b l k).1, p.length ≤ l.length
  | 0 => by simp [spTo]
  | k + 1 => by
    intro p hp
    by_cases h : l[k]? = some b
    · rw [spTo_hit _ _ _ h] at hp
      rcases List.mem_append.1 hp with hp | hp
      · exact spTo_part b l k p hp
      · have e : p = (l.drop (spTo b l k).2).take (k - (spTo b l k).2) := by simpa using hp
        rw [e, List.length_take, List.length_drop]
        omega
    · rw [spTo_miss _ _ _ h] at hp
      exact spTo_part b l k p hp
theorem splitB_part {b : UInt8} {l p : List UInt8} (h : p ∈ splitB b l) : p.length ≤ l.length := by
  unfold splitB at h
  rcases List.mem_append.1 h with h | h
  · exact spTo_part b l _ p h
  · have e : p = l.drop (spTo b l l.length).2 := by simpa using h
    rw [e, List.length_drop]
    omega
theorem splitB_ne (b : UInt8) (l : List UInt8) : 1 ≤ (splitB b l).length := by simp [splitB]
/-- A byte of the whole is in a part. -/
theorem first_at {b : UInt8} {l : List UInt8} (h : b ∈ l) : ∃ p q, l = p ++ b :: q ∧ b ∉ p := by
  induction l with
  | nil => cases h
  | cons a l ih =>
    by_cases e : a = b
    · subst e
      exact ⟨[], l, rfl, by simp⟩
    · have h1 : b ∈ l := by
        rcases List.mem_cons.1 h with h | h
        · exact absurd h.symm e
        · exact h
      obtain ⟨p, q, rfl, hp⟩ := ih h1
      refine ⟨a :: p, q, rfl, ?_⟩
      intro h2
      rcases List.mem_cons.1 h2 with h2 | h2
      · exact e h2.symm
      · exact hp h2
theorem in_part {b c : UInt8} (hne : c ≠ b) : ∀ (n : Nat) (l : List UInt8), l.length ≤ n → c ∈ l → ∃ p ∈ splitB b l, c ∈ p
  | 0, l, hn, h => by
    have := List.length_pos_of_mem h
    omega
  | n + 1, l, hn, h => by
    by_cases hb : b ∈ l
    · obtain ⟨p, q, rfl, hp⟩ := first_at hb
      rw [splitB_cons hp]
      rcases List.mem_append.1 h with h | h
      · exact ⟨p, by simp, h⟩
      · rcases List.mem_cons.1 h with h | h
        · exact absurd h hne
        · have hl : q.length ≤ n := by simp at hn; omega
          obtain ⟨r, hr, hc⟩ := in_part hne n q hl h
          exact ⟨r, by simp [hr], hc⟩
    · rw [splitB_none hb]
      exact ⟨l, by simp, h⟩
theorem parseTo_mem : ∀ (l : List UInt8) (s : Nat), parseTo l = some s → ∀ c ∈ l, 97 ≤ c.toNat ∧ c.toNat ≤ 102 := by
  intro l
  refine snoc_ind (P := fun l => ∀ s, parseTo l = some s → ∀ c ∈ l, 97 ≤ c.toNat ∧ c.toNat ≤ 102) ?_ ?_ l
  · intro s _ c hc; cases hc
  · intro l c ih s h d hd
    rcases List.mem_append.1 hd with hd | hd
    · rw [parseTo_snoc] at h
      obtain ⟨s0, h0, _⟩ := Option.bind_eq_some_iff.1 h
      exact ih s0 h0 d hd
    · have : d = c := by simpa using hd
      subst this
      obtain ⟨a, b, _⟩ := parseTo_last l d s h
      exact ⟨a, b⟩
theorem parseSet_colon {l : List UInt8} (h : (58 : UInt8) ∈ l) : (parseSet l).2 = false := by
  unfold parseSet
  split
  · rename_i e
    rw [e] at h
    revert h
    decide
  · split
    · rename_i s hs
      have h1 := (parseTo_mem l s hs 58 h).1
      exact absurd h1 (by decide)
    · rfl

/-- What is read behind the colon. -/
def setsOk (r : List UInt8) : Bool := r.isEmpty || (splitB 44 r).all (fun p => (parseSet p).2)
def setsXs (r : List UInt8) : List Int := if r.isEmpty then [] else (splitB 44 r).map (fun p => ((parseSet p).1 : Int))
theorem setsOk_colon {r : List UInt8} (h : (58 : UInt8) ∈ r) : setsOk r = false := by
  unfold setsOk
  have h1 : r.isEmpty = false := by
    cases r with
    | nil => cases h
    | cons _ _ => rfl
  rw [h1, Bool.false_or]
  obtain ⟨p, hp, hc⟩ := in_part (b := 44) (c := 58) (by decide) r.length r (Nat.le_refl _) h
  exact List.all_eq_false.2 ⟨p, hp, by rw [parseSet_colon hc]; simp⟩
/-- The head of a text: a digit of one to six and a colon. -/
def headB (l : List UInt8) : Bool := match l with
  | c :: d :: _ => decide (49 ≤ c.toNat ∧ c.toNat ≤ 54 ∧ d = 58)
  | _ => false
def headN (l : List UInt8) : Int := match l with
  | c :: _ => (c.toNat : Int) - 48
  | _ => 0
def pcxOk (l : List UInt8) : Bool := headB l && setsOk (l.drop 2) && isCx (headN l) (setsXs (l.drop 2))
def pcxN (l : List UInt8) : Int := if pcxOk l then headN l else 0
def pcxXs (l : List UInt8) : List Int := if pcxOk l then setsXs (l.drop 2) else []
/-- The same as the reference reads it. -/
def pcs (l : List UInt8) : List (List UInt8) := splitB 58 l
def pcsOk (l : List UInt8) : Bool := decide ((pcs l).length = 2) && piOk ((pcs l).getD 0 []) && setsOk ((pcs l).getD 1 []) && isCx (piVal ((pcs l).getD 0 [])) (setsXs ((pcs l).getD 1 []))
theorem pi_digit {n : Int} {p : List UInt8} (h : piOk p = true) (hn : piVal p = n) (h1 : 1 ≤ n ∧ n ≤ 6) : ∃ c, p = [c] ∧ (c.toNat : Int) = n + 48 := by
  have h45 : ∀ t, p ≠ 45 :: t := by
    rintro t rfl
    unfold piVal at hn
    simp only at hn
    split at hn <;> omega
  have hpd : piOk p = pdOk 12 p ∧ piVal p = pdVal 12 p := by
    cases p with
    | nil => exact ⟨rfl, rfl⟩
    | cons c t =>
      have hc : c ≠ 45 := fun e => h45 t (by rw [e])
      constructor
      · unfold piOk
        split
        · rename_i e
          exact absurd (List.cons.inj e).1 hc
        · rfl
      · unfold piVal
        split
        · rename_i e
          exact absurd (List.cons.inj e).1 hc
        · rfl
  rw [hpd.1] at h
  rw [hpd.2, pdVal_yes h] at hn
  unfold pdOk at h
  rw [Bool.and_eq_true, Bool.and_eq_true] at h
  obtain ⟨⟨ha, hb⟩, hc⟩ := h
  have hl := of_decide_eq_true ha
  have hf := (fmtN_valOf hc (by omega)).2 hb
  have hv : valOf p = n.toNat := by omega
  rw [hv] at hf
  have e : ∀ m : Nat, 1 ≤ m → m ≤ 6 → fmtN m = [UInt8.ofNat (m + 48)] ∧ (UInt8.ofNat (m + 48)).toNat = m + 48 := by
    intro m h1 h2
    rcases (by omega : m = 1 ∨ m = 2 ∨ m = 3 ∨ m = 4 ∨ m = 5 ∨ m = 6) with rfl | rfl | rfl | rfl | rfl | rfl <;> decide +kernel
  obtain ⟨e1, e2⟩ := e n.toNat (by omega) (by omega)
  rw [e1] at hf
  exact ⟨_, hf.symm, by rw [e2]; omega⟩
theorem digit_pi {c : UInt8} (h : 49 ≤ c.toNat ∧ c.toNat ≤ 54) : piOk [c] = true ∧ piVal [c] = (c.toNat : Int) - 48 := by
  have hc : c = UInt8.ofNat c.toNat := by simp
  obtain ⟨m, hm⟩ : ∃ m, m = c.toNat := ⟨_, rfl⟩
  rw [← hm] at h hc ⊢
  rw [hc]
  rcases (by omega : m = 49 ∨ m = 50 ∨ m = 51 ∨ m = 52 ∨ m = 53 ∨ m = 54) with rfl | rfl | rfl | rfl | rfl | rfl <;> decide +kernel
theorem pcs_two {l : List UInt8} (h : (pcs l).length = 2) : ∃ p r, l = p ++ 58 :: r ∧ 58 ∉ p ∧ 58 ∉ r ∧ pcs l = [p, r] := by
  unfold pcs at *
  by_cases hm : (58 : UInt8) ∈ l
  · obtain ⟨p, r, rfl, hp⟩ := first_at hm
    rw [splitB_cons hp] at h ⊢
    by_cases hr : (58 : UInt8) ∈ r
    · obtain ⟨p2, r2, rfl, hp2⟩ := first_at hr
      rw [splitB_cons hp2] at h
      have h2 := splitB_ne 58 r2
      rw [List.length_cons, List.length_cons] at h
      omega
    · rw [splitB_none hr]
      exact ⟨p, r, rfl, hp, hr, rfl⟩
  · rw [splitB_none hm] at h
    simp at h
theorem pcs_eq (l : List UInt8) : pcsOk l = pcxOk l ∧ (pcxOk l = true → piVal ((pcs l).getD 0 []) = headN l ∧ setsXs ((pcs l).getD 1 []) = setsXs (l.drop 2)) := by
  by_cases h : pcxOk l = true
  · have h' := h
    unfold pcxOk at h'
    rw [Bool.and_eq_true, Bool.and_eq_true] at h'
    obtain ⟨⟨ha, hb⟩, hc⟩ := h'
    match l, ha with
    | c :: d :: r, ha =>
      have ha' : 49 ≤ c.toNat ∧ c.toNat ≤ 54 ∧ d = 58 := of_decide_eq_true ha
      obtain ⟨h1, h2, rfl⟩ := ha'
      have hr : (58 : UInt8) ∉ r := by
        intro hm
        have := setsOk_colon hm
        rw [show (c :: 58 :: r).drop 2 = r from rfl, this] at hb
        cases hb
      have hcn : (58 : UInt8) ∉ [c] := by
        intro hm
        have : (58 : UInt8) = c := by simpa using hm
        rw [← this] at h2
        revert h2
        decide
      have hs : pcs (c :: 58 :: r) = [[c], r] := by
        unfold pcs
        have := splitB_cons (b := 58) (p := [c]) (q := r) hcn
        rw [splitB_none hr] at this
        exact this
      obtain ⟨e1, e2⟩ := digit_pi ⟨h1, h2⟩
      have hcx : isCx ((c.toNat : Int) - 48) (setsXs r) = true := hc
      have hb' : setsOk r = true := hb
      rw [h]
      unfold pcsOk
      rw [hs]
      refine ⟨?_, fun _ => ⟨e2, rfl⟩⟩
      show (decide (([[c], r] : List (List UInt8)).length = 2) && piOk [c] && setsOk r && isCx (piVal [c]) (setsXs r)) = true
      rw [e1, e2, hb', hcx]
      rfl
  · have hf : pcxOk l = false := by simpa using h
    refine ⟨?_, fun e => absurd e h⟩
    rw [hf]
    cases hp : pcsOk l
    · rfl
    · exfalso
      unfold pcsOk at hp
      rw [Bool.and_eq_true, Bool.and_eq_true, Bool.and_eq_true] at hp
      obtain ⟨⟨⟨ha, hb⟩, hc⟩, hd⟩ := hp
      obtain ⟨p, r, rfl, hp, hr, hs⟩ := pcs_two (of_decide_eq_true ha)
      rw [hs] at hb hc hd
      have hb' : piOk p = true := hb
      have hc' : setsOk r = true := hc
      have hd' : isCx (piVal p) (setsXs r) = true := hd
      obtain ⟨c, rfl, he⟩ := pi_digit hb' rfl ((isCx_inv hd').1)
      have h6 := (isCx_inv hd').1
      apply h
      unfold pcxOk
      show (decide (49 ≤ c.toNat ∧ c.toNat ≤ 54 ∧ (58 : UInt8) = 58) && setsOk r && isCx ((c.toNat : Int) - 48) (setsXs r)) = true
      rw [hc', decide_eq_true (by exact ⟨by omega, by omega, rfl⟩), show (c.toNat : Int) - 48 = piVal [c] by omega, hd']
      rfl
end Go.Proofs.YtmkacjpjcfffmaaDoor
