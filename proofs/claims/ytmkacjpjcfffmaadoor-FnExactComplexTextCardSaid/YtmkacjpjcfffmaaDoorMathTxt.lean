/- Plain laws: the text of a set and its parsing, as functions on lists of bytes. No program is named here. -/
namespace Go.Proofs.YtmkacjpjcfffmaaDoor

theorem snoc_ind {α : Type} {P : List α → Prop} (h0 : P []) (h1 : ∀ l a, P l → P (l ++ [a])) (l : List α) : P l := by
  have h : ∀ r : List α, P r.reverse := by
    intro r
    induction r with
    | nil => exact h0
    | cons a r ih => rw [List.reverse_cons]; exact h1 _ _ ih
  have := h l.reverse
  rwa [List.reverse_reverse] at this
/-- The bytes of a set's points below k. -/
def txtTo (s k : Nat) : List UInt8 := ((List.range k).filter (fun i => s.testBit i)).map (fun i => UInt8.ofNat (97 + i))
/-- The text of a set. -/
def setTxt (s : Nat) : List UInt8 := if s = 0 then [45] else txtTo s 6
theorem txtTo_yes (s k : Nat) (h : s.testBit k = true) : txtTo s (k + 1) = txtTo s k ++ [UInt8.ofNat (97 + k)] := by simp [txtTo, List.range_succ, h]
theorem txtTo_no (s k : Nat) (h : s.testBit k = false) : txtTo s (k + 1) = txtTo s k := by simp [txtTo, List.range_succ, h]
theorem txtTo_len (s k : Nat) : (txtTo s k).length ≤ k := by
  have := List.length_filter_le (fun i => s.testBit i) (List.range k)
  simpa [txtTo] using this

/-- One letter more. -/
def stepSet (s : Nat) (c : Nat) : Option Nat := if 97 ≤ c ∧ c ≤ 102 ∧ s < 2 ^ (c - 97) then some (s + 2 ^ (c - 97)) else none
def parseTo (l : List UInt8) : Option Nat := l.foldlM (fun s c => stepSet s c.toNat) 0
theorem parseTo_nil : parseTo [] = some 0 := rfl
theorem parseTo_snoc (l : List UInt8) (c : UInt8) : parseTo (l ++ [c]) = (parseTo l).bind (fun s => stepSet s c.toNat) := by
  simp [parseTo, List.foldlM_append]
theorem parseTo_append_none (l r : List UInt8) (h : parseTo l = none) : parseTo (l ++ r) = none := by
  unfold parseTo at h ⊢
  rw [List.foldlM_append, h]
  rfl
/-- What has been read is a set, of as many points as letters. -/
theorem parseTo_lt : ∀ (l : List UInt8) (s : Nat), parseTo l = some s → s < 64 ∧ 2 ^ l.length ≤ s + 1 := by
  intro l
  refine snoc_ind (P := fun l => ∀ s, parseTo l = some s → s < 64 ∧ 2 ^ l.length ≤ s + 1) ?_ ?_ l
  · intro s h; cases h; decide
  · intro l c ih s h
    rw [parseTo_snoc] at h
    obtain ⟨s0, h0, h1⟩ := Option.bind_eq_some_iff.1 h
    obtain ⟨a, b⟩ := ih s0 h0
    unfold stepSet at h1
    split at h1
    · rename_i hc
      obtain ⟨c1, c2, c3⟩ := hc
      cases h1
      have h6 : 2 ^ (c.toNat - 97) ≤ 2 ^ 5 := Nat.pow_le_pow_right (by omega) (by omega)
      rw [List.length_append]
      simp only [List.length_cons, List.length_nil, Nat.zero_add, Nat.pow_succ]
      omega
    · cases h1
/-- The last letter read is the set's last point. -/
theorem parseTo_last (l : List UInt8) (c : UInt8) (s : Nat) (h : parseTo (l ++ [c]) = some s) : 97 ≤ c.toNat ∧ c.toNat ≤ 102 ∧ 2 ^ (c.toNat - 97) ≤ s ∧ s < 2 ^ (c.toNat - 97 + 1) := by
  rw [parseTo_snoc] at h
  obtain ⟨s0, h0, h1⟩ := Option.bind_eq_some_iff.1 h
  unfold stepSet at h1
  split at h1
  · rename_i hc
    obtain ⟨c1, c2, c3⟩ := hc
    cases h1
    rw [Nat.pow_succ]
    omega
  · cases h1
/-- What ParseSet gives: the set and whether the text is one. -/
def parseSet (l : List UInt8) : Nat × Bool := if l = [45] then (0, true) else match parseTo l with
  | some s => (s, !l.isEmpty)
  | none => (0, false)
theorem parseSet_dash : parseSet [45] = (0, true) := rfl
theorem parseSet_some (l : List UInt8) (s : Nat) (h : parseTo l = some s) (hd : l ≠ [45]) : parseSet l = (s, !l.isEmpty) := by
  unfold parseSet
  rw [if_neg hd, h]
theorem parseSet_none (l : List UInt8) (h : parseTo l = none) (hd : l ≠ [45]) : parseSet l = (0, false) := by
  unfold parseSet
  rw [if_neg hd, h]
/-- A prefix that is no set makes the whole none. -/
theorem parseTo_take_none (l : List UInt8) (k : Nat) (h : parseTo (l.take k) = none) : parseTo l = none := by
  rw [← List.take_append_drop k l]
  exact parseTo_append_none _ _ h
theorem parseTo_long (l : List UInt8) (h : 6 < l.length) : parseTo l = none := by
  cases hp : parseTo l with
  | none => rfl
  | some s =>
    obtain ⟨a, b⟩ := parseTo_lt l s hp
    have : 2 ^ 7 ≤ 2 ^ l.length := Nat.pow_le_pow_right (by omega) h
    omega
end Go.Proofs.YtmkacjpjcfffmaaDoor
