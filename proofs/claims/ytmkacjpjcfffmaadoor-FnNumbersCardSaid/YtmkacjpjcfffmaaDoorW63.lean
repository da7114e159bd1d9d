/- Plain laws for FnSets. -/
import Derived.Test.YtmkacjpjcfffmaaDoorW62
import Derived.Test.YtmkacjpjcfffmaaDoorW51
import Derived.Test.YtmkacjpjcfffmaaDoorW9
import Derived.Test.YtmkacjpjcfffmaaDoorPts
import Derived.Test.YtmkacjpjcfffmaaDoorParse
import Derived.Test.YtmkacjpjcfffmaaDoorMathJoin
namespace Go.Proofs.YtmkacjpjcfffmaaDoor
open Go.RowKit

theorem nowB_ {W w' : World} {v : Value} {L : List UInt8} (h : BytesAt W W.heap.size v L) (c : Below W.heap.size W w') : BytesAt w' w'.heap.size v L := ReadsV.on h c (Nat.le_refl _) (Nat.le_refl _)
theorem parse_txt_all : ((List.range 64).all fun s => parseSet (setTxt s) == (s, true)) = true := by decide +kernel
theorem parse_txt {s : Nat} (h : s < 64) : parseSet (setTxtOf (s : Int)) = (s, true) := by
  rw [setTxtOf_yes h]
  have := List.all_eq_true.1 parse_txt_all s (List.mem_range.2 h)
  simpa using this
theorem parse_txt_no {s : Int} (h : ¬ (0 ≤ s ∧ s < 64)) : parseSet (setTxtOf s) = (0, false) := by
  rw [setTxtOf_no h]
  rfl
theorem subs_all : ((List.range 64).all fun s => (listOf (fun t => sub t s)).length == 2 ^ pc s) = true := by decide +kernel
theorem subs_len {s : Nat} (h : s < 64) : (subsetsOf (s : Int)).length = 2 ^ pc s := by
  rw [subsetsOf_yes h]
  have := List.all_eq_true.1 subs_all s (List.mem_range.2 h)
  simpa using this
theorem zsl (l : List Nat) : (zs l).length = l.length := List.length_map _
/-- No set of the list lies over a greatest one. -/
theorem max_over {xs : List Int} {m : Nat} {x : Int} (h : m ∈ maxSets xs) (hx : x ∈ xs) : m < 64 ∧ ∃ X : Nat, x = (X : Int) ∧ X < 64 ∧ (X = m ∨ sub m X = false) := by
  unfold maxSets at h
  split at h
  · rename_i ha
    obtain ⟨h0, h1⟩ := allSets_at ha hx
    obtain ⟨X, rfl⟩ := Int.eq_ofNat_of_zero_le h0
    unfold maxOf maxL at h
    obtain ⟨h2, h3⟩ := List.mem_filter.1 h
    have hm := (mem_listOf.1 h2).1
    refine ⟨hm, X, rfl, by omega, ?_⟩
    cases hs : sub m X
    · exact .inr rfl
    · exact .inl (keepMax_iff.1 h3 X (by omega) (List.contains_iff_mem.2 hx) hs)
  · cases h
theorem over_bits {m X : Nat} (hm : m < 64) (hX : X < 64) (h : sub m X = false) : (bits BinOp.and IntKind.i64 (m : Int) (X : Int) == (m : Int)) = false := by
  rw [i64_and m X (by omega) (by omega), beq_eq_false_iff_ne]
  intro e
  have e2 : m &&& X = m := Int.ofNat.inj e
  have : sub m X = true := sub_iff.2 e2
  rw [this] at h
  cases h
theorem ptsOf_len6 (s : Int) : (ptsOf s).length ≤ 1048576 := by
  by_cases h : 0 ≤ s ∧ s < 64
  · obtain ⟨m, rfl⟩ := Int.eq_ofNat_of_zero_le h.1
    rw [ptsOf_yes (by omega)]
    have := pts_len m 6
    omega
  · rw [ptsOf_no h]
    simp
theorem asI {P : Program} {f : FuncId} {args : Array Value} {w : World} {T : TypeId} {xs y : List Int} (h : Calls P f args w fun e w' => RetI T w xs e w') (e : y = xs) : Calls P f args w fun e w' => RetI T w y e w' := by
  subst e
  exact h
end Go.Proofs.YtmkacjpjcfffmaaDoor
