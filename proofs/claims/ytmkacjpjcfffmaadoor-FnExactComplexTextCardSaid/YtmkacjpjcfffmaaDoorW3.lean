/- Walks: the laws' helpers on lists of strings. -/
import Derived.Test.YtmkacjpjcfffmaaDoorW1
import Derived.Test.YtmkacjpjcfffmaaDoorMathNum
namespace Go.Proofs.YtmkacjpjcfffmaaDoor
open Go.RowKit

theorem infoS : (Tryd.prog.info? 9).map (fun i => (i.zero, i.size, i.bytes)) = some (some (.string ⟨#[]⟩), 1, 16) := by kernel_rfl

theorem digit_step (k : Nat) : UInt8.ofNat ((48 + (k : Int) % 10)).toNat = digit (k % 10) := by
  have e : ((48 + (k : Int) % 10)).toNat = 48 + k % 10 := by omega
  rw [e]
  rfl

theorem digit_add (n : Nat) : (48 : UInt8) + UInt8.ofNat n = digit n := by
  unfold digit
  rw [UInt8.ofNat_add]
  rfl
theorem str_cons (c : UInt8) (r : List UInt8) : ((⟨#[c]⟩ : ByteArray) ++ ⟨r.toArray⟩) = ⟨(c :: r).toArray⟩ := by
  apply ByteArray.ext
  simp
/-- The texts of k, k + 1, .., n of them. -/
def smarks (k : Int) (n : Nat) : List (List UInt8) := (List.range n).map (fun (i : Nat) => markTxt (k + (i : Int)))
theorem smarks_len (k : Int) (n : Nat) : (smarks k n).length = n := by simp [smarks]
theorem smarks_succ (k : Int) (n : Nat) : smarks k (n + 1) = smarks k n ++ [markTxt (k + (n : Int))] := by simp [smarks, List.range_succ]
theorem smarks_get (k : Int) (n i : Nat) (h : i < n) : (smarks k n)[i]? = some (markTxt (k + (i : Int))) := by simp [smarks, h]
theorem smarked_set (k : Int) (xs : List (List UInt8)) (i : Nat) (h : i < xs.length) : (smarks k i ++ xs.drop i).set i (markTxt (k + (i : Int))) = smarks k (i + 1) ++ xs.drop (i + 1) := by
  rw [List.set_append_right _ _ (by rw [smarks_len]; omega), smarks_len, Nat.sub_self, List.drop_eq_getElem_cons h, List.set_cons_zero, smarks_succ]
  simp
theorem smarked_len (k : Int) (xs : List (List UInt8)) (i : Nat) (h : i ≤ xs.length) : (smarks k i ++ xs.drop i).length = xs.length := by
  simp [smarks_len]; omega

end Go.Proofs.YtmkacjpjcfffmaaDoor
