/- Plain laws: splitting a list of bytes at a byte. No program is named here. -/
namespace Go.Proofs.YtmkacjpjcfffmaaDoor
/-- Behind k bytes: the parts that are closed, and where the open one begins. -/
def spTo (b : UInt8) (l : List UInt8) : Nat → List (List UInt8) × Nat
  | 0 => ([], 0)
  | k + 1 => let r := spTo b l k
    if l[k]? = some b then (r.1 ++ [(l.drop r.2).take (k - r.2)], k + 1) else r
def splitB (b : UInt8) (l : List UInt8) : List (List UInt8) := (spTo b l l.length).1 ++ [l.drop (spTo b l l.length).2]
theorem spTo_hit (b : UInt8) (l : List UInt8) (k : Nat) (h : l[k]? = some b) : spTo b l (k + 1) = ((spTo b l k).1 ++ [(l.drop (spTo b l k).2).take (k - (spTo b l k).2)], k + 1) := by
  simp [spTo, h]
theorem spTo_miss (b : UInt8) (l : List UInt8) (k : Nat) (h : l[k]? ≠ some b) : spTo b l (k + 1) = spTo b l k := by
  simp [spTo, h]
theorem spTo_le (b : UInt8) (l : List UInt8) : ∀ k, (spTo b l k).2 ≤ k ∧ (spTo b l k).1.length ≤ k := by
  intro k
  induction k with
  | zero => simp [spTo]
  | succ k ih =>
    by_cases h : l[k]? = some b
    · rw [spTo_hit b l k h]
      simp
      omega
    · rw [spTo_miss b l k h]
      omega
theorem splitB_len (b : UInt8) (l : List UInt8) : (splitB b l).length ≤ l.length + 1 := by
  have := (spTo_le b l l.length).2
  simp [splitB]
  omega
end Go.Proofs.YtmkacjpjcfffmaaDoor
