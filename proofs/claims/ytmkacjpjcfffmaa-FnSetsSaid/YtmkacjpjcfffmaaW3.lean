/- Walks: the laws' helpers on lists of strings. -/
import Derived.Test.YtmkacjpjcfffmaaW1
import Derived.Test.YtmkacjpjcfffmaaMathNum
namespace Go.Proofs.Ytmkacjpjcfffmaa
open Go.RowKit

theorem infoS : (Try.prog.info? 9).map (fun i => (i.zero, i.size, i.bytes)) = some (some (.string ⟨#[]⟩), 1, 16) := by kernel_rfl

theorem eqStringS_any (v1 v2 : Value) (xs ys : List (List UInt8)) (w : World) (h1 : StrsAt w w.heap.size v1 xs) (h2 : StrsAt w w.heap.size v2 ys) (hl1 : xs.length ≤ 1073741824) :
    Calls Try.prog 20 #[v1, v2] w fun e w' => RetB w (decide (xs = ys)) e w' := by
  obtain ⟨A1, c1, rfl, hc1, he1⟩ := formS_ h1
  obtain ⟨A2, c2, rfl, hc2, he2⟩ := formS_ h2
  clear h1 h2
  by_cases hl : xs.length = ys.length
  · have hlen := hide hl
    have hbe : ((xs.length : Int) != (ys.length : Int)) = false := by rw [hl]; simp
    have h12 : xs.length ≤ ys.length := by omega
    have h21 : ys.length ≤ xs.length := by omega
    clear hl
    go_enter Try.func20, Try.ntmps20
    go_wp2
    go_loopw [5] (fun i wr => ∃ (k n : Nat), k ≤ xs.length ∧ i = .int .i64 k ∧ Hid (xs.take k = ys.take k) ∧ wr = w.drewN n) (fun i _ => xs.length - (intOf i).toNat)
    case atStart => exact ⟨0, 0, by omega, rfl, by simp [Hid], rfl⟩
    case round =>
      obtain ⟨k, n, hk, rfl, Ht, rfl⟩ := hrel
      by_cases hlt : k < xs.length
      · have hlt2 : k < ys.length := by omega
        obtain ⟨b1, o1, x, rfl, hb1, hx, hcx⟩ := he1 k hlt
        obtain ⟨b2, o2, y, rfl, hb2, hy, hcy⟩ := he2 k hlt2
        have Hx := hide hx
        have Hy := hide hy
        clear hx hy he1 he2
        by_cases hxy : x = y
        · have hne : (x == y) = true := by simp [hxy]
          have Hxy := hide hxy
          clear hxy
          go_wp2
          go_quiet (fail)
          go_wp2
          go_roundw
          case rel => exact ⟨k + 1, _, by omega, by go_num, by rw [take_snoc _ _ _ Hx.out, take_snoc _ _ _ Hy.out, Ht.out, Hxy.out]; rfl, rfl⟩
          case measure => simp [intOf]; omega
        · have hne : (x == y) = false := by simp [hxy]
          have Hxy := hide hxy
          clear hxy
          go_wp2
          go_quiet (fail)
          go_wp2
          go_ret
          refine ⟨ret_bool ?_, below_drewN (below_drewN (Below.refl _ _) _) _⟩
          symm
          apply decide_eq_false
          intro h
          have h1 := Hx.out
          have h2 := Hy.out
          rw [h, h2] at h1
          exact Hxy.out (Option.some.inj h1).symm
      · clear he1 he2
        go_wp2
        go_ret
        refine ⟨ret_bool ?_, below_drewN (Below.refl _ _) _⟩
        symm
        apply decide_eq_true
        have := Ht.out
        rwa [take_all _ _ (by omega), take_all _ _ (by omega)] at this
  · have hlen := hide hl
    have hbe : ((xs.length : Int) != (ys.length : Int)) = true := by simp; omega
    clear hl he1 he2
    go_enter Try.func20, Try.ntmps20
    go_wp2
    go_ret
    refine ⟨ret_bool ?_, Below.refl _ _⟩
    symm
    apply decide_eq_false
    intro h
    exact hlen.out (by rw [h])

theorem digit_step (k : Nat) : UInt8.ofNat ((48 + (k : Int) % 10)).toNat = digit (k % 10) := by
  have e : ((48 + (k : Int) % 10)).toNat = 48 + k % 10 := by omega
  rw [e]
  rfl

theorem digit_add (n : Nat) : (48 : UInt8) + UInt8.ofNat n = digit n := by
  unfold digit
  rw [UInt8.ofNat_add]
  rfl
theorem str_cons (c : UInt8) (r : List UInt8) : ((⟨#[c]⟩ : ByteArray) ++ ⟨r.toArray⟩) = ⟨(c :: r).toArray⟩ := by
  apply ByteArray.ext
  simp
/-- The texts of k, k + 1, .., n of them. -/
def smarks (k : Int) (n : Nat) : List (List UInt8) := (List.range n).map (fun (i : Nat) => markTxt (k + (i : Int)))
theorem smarks_len (k : Int) (n : Nat) : (smarks k n).length = n := by simp [smarks]
theorem smarks_succ (k : Int) (n : Nat) : smarks k (n + 1) = smarks k n ++ [markTxt (k + (n : Int))] := by simp [smarks, List.range_succ]
theorem smarks_get (k : Int) (n i : Nat) (h : i < n) : (smarks k n)[i]? = some (markTxt (k + (i : Int))) := by simp [smarks, h]
theorem smarked_set (k : Int) (xs : List (List UInt8)) (i : Nat) (h : i < xs.length) : (smarks k i ++ xs.drop i).set i (markTxt (k + (i : Int))) = smarks k (i + 1) ++ xs.drop (i + 1) := by
  rw [List.set_append_right _ _ (by rw [smarks_len]; omega), smarks_len, Nat.sub_self, List.drop_eq_getElem_cons h, List.set_cons_zero, smarks_succ]
  simp
theorem smarked_len (k : Int) (xs : List (List UInt8)) (i : Nat) (h : i ≤ xs.length) : (smarks k i ++ xs.drop i).length = xs.length := by
  simp [smarks_len]; omega

end Go.Proofs.Ytmkacjpjcfffmaa
