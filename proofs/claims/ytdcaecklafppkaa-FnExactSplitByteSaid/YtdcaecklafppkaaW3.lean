/- Walks: the laws' helpers on lists of strings. -/
import Derived.Test.YtdcaecklafppkaaW1
import Derived.Test.YtdcaecklafppkaaMathNum
namespace Go.Proofs.Ytdcaecklafppkaa
open Go.RowKit

theorem infoS : (Try.prog.info? 9).map (fun i => (i.zero, i.size, i.bytes)) = some (some (.string ⟨#[]⟩), 1, 16) := by kernel_rfl

theorem eqStringS_any (v1 v2 : Value) (xs ys : List (List UInt8)) (w : World) (h1 : StrsAt w w.heap.size v1 xs) (h2 : StrsAt w w.heap.size v2 ys) (hl1 : xs.length ≤ 1073741824) :
    Calls Try.prog 22 #[v1, v2] w fun e w' => RetB w (decide (xs = ys)) e w' := by
  obtain ⟨A1, c1, rfl, hc1, he1⟩ := formS_ h1
  obtain ⟨A2, c2, rfl, hc2, he2⟩ := formS_ h2
  clear h1 h2
  by_cases hl : xs.length = ys.length
  · have hlen := hide hl
    have hbe : ((xs.length : Int) != (ys.length : Int)) = false := by rw [hl]; simp
    have h12 : xs.length ≤ ys.length := by omega
    have h21 : ys.length ≤ xs.length := by omega
    clear hl
    go_enter Try.func22, Try.ntmps22
    go_wp2
    go_loopw [5] (fun i wr => ∃ (k n : Nat), k ≤ xs.length ∧ i = .int .i64 k ∧ Hid (xs.take k = ys.take k) ∧ wr = w.drewN n) (fun i _ => xs.length - (intOf i).toNat)
    case atStart => exact ⟨0, 0, by omega, rfl, by simp [Hid], rfl⟩
    case round =>
      obtain ⟨k, n, hk, rfl, Ht, rfl⟩ := hrel
      by_cases hlt : k < xs.length
      · have hlt2 : k < ys.length := by omega
        obtain ⟨b1, o1, x, rfl, hb1, hx, hcx⟩ := he1 k hlt
        obtain ⟨b2, o2, y, rfl, hb2, hy, hcy⟩ := he2 k hlt2
        have Hx := hide hx
        have Hy := hide hy
        clear hx hy he1 he2
        by_cases hxy : x = y
        · have hne : (x == y) = true := by simp [hxy]
          have Hxy := hide hxy
          clear hxy
          go_wp2
          go_quiet (fail)
          go_wp2
          go_roundw
          case rel => exact ⟨k + 1, _, by omega, by go_num, by rw [take_snoc _ _ _ Hx.out, take_snoc _ _ _ Hy.out, Ht.out, Hxy.out]; rfl, rfl⟩
          case measure => simp [intOf]; omega
        · have hne : (x == y) = false := by simp [hxy]
          have Hxy := hide hxy
          clear hxy
          go_wp2
          go_quiet (fail)
          go_wp2
          go_ret
          refine ⟨ret_bool ?_, below_drewN (below_drewN (Below.refl _ _) _) _⟩
          symm
          apply decide_eq_false
          intro h
          have h1 := Hx.out
          have h2 := Hy.out
          rw [h, h2] at h1
          exact Hxy.out (Option.some.inj h1).symm
      · clear he1 he2
        go_wp2
        go_ret
        refine ⟨ret_bool ?_, below_drewN (Below.refl _ _) _⟩
        symm
        apply decide_eq_true
        have := Ht.out
        rwa [take_all _ _ (by omega), take_all _ _ (by omega)] at this
  · have hlen := hide hl
    have hbe : ((xs.length : Int) != (ys.length : Int)) = true := by simp; omega
    clear hl he1 he2
    go_enter Try.func22, Try.ntmps22
    go_wp2
    go_ret
    refine ⟨ret_bool ?_, Below.refl _ _⟩
    symm
    apply decide_eq_false
    intro h
    exact hlen.out (by rw [h])

theorem digit_step (k : Nat) : UInt8.ofNat ((48 + (k : Int) % 10)).toNat = digit (k % 10) := by
  have e : ((48 + (k : Int) % 10)).toNat = 48 + k % 10 := by omega
  rw [e]
  rfl

theorem digit_add (n : Nat) : (48 : UInt8) + UInt8.ofNat n = digit n := by
  unfold digit
  rw [UInt8.ofNat_add]
  rfl
theorem str_cons (c : UInt8) (r : List UInt8) : ((⟨#[c]⟩ : ByteArray) ++ ⟨r.toArray⟩) = ⟨(c :: r).toArray⟩ := by
  apply ByteArray.ext
  simp
theorem markText_any (k : Int) (w : World) (hk : k ≤ 4398046511104) : Calls Try.prog 26 #[.int .i64 k] w fun e w' => RetS w (markTxt k) e w' := by
  by_cases h0 : k ≤ 0
  · have H := hide (show markTxt k = [109, 48] by simp [markTxt, h0])
    go_enter Try.func26, Try.ntmps26
    go_wp2
    go_ret
    exact ⟨by rw [H.out]; rfl, Below.refl _ _⟩
  · obtain ⟨m, rfl⟩ := Int.eq_ofNat_of_zero_le (show 0 ≤ k by omega)
    have H := hide (show markTxt (m : Int) = 109 :: dec m by unfold markTxt; rw [if_neg h0]; rfl)
    have hcv := conv1 (P := Try.prog) (src := 40) (dst := 9) Try.underlying40 Try.underlying5 Try.underlying9
    go_enter Try.func26, Try.ntmps26
    go_wp2
    go_loopw [0, 3] (fun i t wr => ∃ (j : Nat) (r : List UInt8), j ≤ m ∧ i = .int .i64 j ∧ t = .string ⟨r.toArray⟩ ∧ Hid (dec m = dec j ++ r) ∧ Below w.heap.size w wr) (fun i _ _ => (intOf i).toNat)
    case atStart => exact ⟨m, [], by omega, rfl, rfl, by simp [Hid], Below.refl _ _⟩
    case round =>
      obtain ⟨j, r, hj, rfl, rfl, hd, hb⟩ := hrel
      by_cases hlt : 0 < j
      · have Hd : Hid (dec m = dec (j / 10) ++ (digit (j % 10) :: r)) := by rw [hd.out, dec_pos hlt]; simp [Hid]
        have hrl : r.length < 9223372036854775807 := by
          have h1 := congrArg List.length hd.out
          have h2 := dec_len m
          rw [dec_pos hlt] at h1
          simp at h1
          omega
        have hdv : j / 10 < j := Nat.div_lt_self (by omega) (by omega)
        go_wp2
        go_roundw
        case rel =>
          refine ⟨j / 10, digit (j % 10) :: r, by omega, by go_num, ?_, Hd, hb.alloc hb.size _⟩
          rw [str_cons, digit_add]
        case measure => simp [intOf]; omega
      · obtain rfl : j = 0 := by omega
        have hrl : r.length ≤ 9223372036854775806 := by
          have h1 := congrArg List.length hd.out
          have h2 := dec_len m
          rw [dec_zero, List.nil_append] at h1
          omega
        go_wp2
        go_ret
        refine ⟨?_, hb⟩
        rw [H.out, hd.out, dec_zero, List.nil_append, ← str_cons]
        rfl

theorem markText_nn (k : Int) (w : World) (hk : k ≤ 4398046511104) : Calls Try.prog 26 #[.int .i64 k] w fun e w' => e = .returned (.string ⟨(markTxt k).toArray⟩) ∧ Below w.heap.size w w' := markText_any k w hk

/-- The texts of k, k + 1, .., n of them. -/
def smarks (k : Int) (n : Nat) : List (List UInt8) := (List.range n).map (fun (i : Nat) => markTxt (k + (i : Int)))
theorem smarks_len (k : Int) (n : Nat) : (smarks k n).length = n := by simp [smarks]
theorem smarks_succ (k : Int) (n : Nat) : smarks k (n + 1) = smarks k n ++ [markTxt (k + (n : Int))] := by simp [smarks, List.range_succ]
theorem smarks_get (k : Int) (n i : Nat) (h : i < n) : (smarks k n)[i]? = some (markTxt (k + (i : Int))) := by simp [smarks, h]
theorem smarked_set (k : Int) (xs : List (List UInt8)) (i : Nat) (h : i < xs.length) : (smarks k i ++ xs.drop i).set i (markTxt (k + (i : Int))) = smarks k (i + 1) ++ xs.drop (i + 1) := by
  rw [List.set_append_right _ _ (by rw [smarks_len]; omega), smarks_len, Nat.sub_self, List.drop_eq_getElem_cons h, List.set_cons_zero, smarks_succ]
  simp
theorem smarked_len (k : Int) (xs : List (List UInt8)) (i : Nat) (h : i ≤ xs.length) : (smarks k i ++ xs.drop i).length = xs.length := by
  simp [smarks_len]; omega

theorem markStringS_any {B : Nat} (v : Value) (xs : List (List UInt8)) (k : Int) (w : World) (h : OwnV 9 w B v (strsV xs)) (hk0 : 0 ≤ k) (hk1 : k ≤ 1099511627776) (hl : xs.length ≤ 1073741824) :
    Calls Try.prog 23 #[v, .int .i64 k] w fun e w' => e = .returned (.int .i64 (k + xs.length)) ∧ OwnV 9 w' B v (strsV (smarks k xs.length)) ∧ w.grownBy w' v.ownBlock := by
  rcases own_form h with ⟨rfl, hx⟩ | ⟨g, cap, hv, hg, hgl, hcap⟩
  · have hx0 : xs = [] := by simpa [strsV] using hx
    subst hx0
    have H := hide h
    clear h
    go_enter Try.func23, Try.ntmps23
    go_wp2
    refine wp_loop_rounds 1 ?_
    rw [rounds_succ]
    go_wp2
    go_ret
    exact ⟨by simp, by simpa [smarks] using H.out, grown_refl _ _⟩
  · rw [strsV_length] at hv hcap
    subst hv
    go_enter Try.func23, Try.ntmps23
    go_wp2
    go_loopw [1, 5] (fun m i wr => ∃ j : Nat, j ≤ xs.length ∧ i = .int .i64 j ∧ m = .int .i64 (k + j) ∧ OwnV 9 wr B (.slice (some ⟨g, 0, none⟩) xs.length cap) (strsV (smarks k j ++ xs.drop j)) ∧ w.grownBy wr (some g)) (fun _ i _ => xs.length - (intOf i).toNat)
    case atStart => exact ⟨0, by omega, rfl, by simp, by simpa [smarks] using h, grown_refl _ _⟩
    case round =>
      obtain ⟨j, hj, rfl, rfl, hown, hgr⟩ := hrel
      by_cases hlt : j < xs.length
      · have hml := smarked_len k xs j hj
        have hms := smarked_set k xs j hlt
        have Hown := hide hown
        have Hgr := hide hgr
        clear hown hgr h
        have Hml := hide hml
        have Hms := hide hms
        clear hml hms
        go_wp2_with fail
        refine (markText_any _ _ (by omega)).mono ?_
        rintro e wq ⟨rfl, bq⟩
        have hown := own_below Hown.out bq
        have hgr := grown_step Hgr.out bq
        have hvv : Value.slice (some ⟨g, 0, none⟩) xs.length cap = .slice (some ⟨g, 0, none⟩) (strsV (smarks k j ++ xs.drop j)).length cap := by rw [strsV_length, Hml.out]
        obtain ⟨u, hu⟩ : ∃ u, (strsV (smarks k j ++ xs.drop j))[j]? = some u := ⟨_, List.getElem?_eq_getElem (by rw [strsV_length, Hml.out]; omega)⟩
        obtain ⟨hc, hf⟩ := own_cell hown hvv hu
        have hset := own_set hown hvv j (.string ⟨(markTxt (k + j)).toArray⟩)
        have hgs := grown_setCell hgr j (.string ⟨(markTxt (k + j)).toArray⟩)
        have es : (strsV (smarks k j ++ xs.drop j)).set j (.string ⟨(markTxt (k + j)).toArray⟩) = strsV (smarks k (j + 1) ++ xs.drop (j + 1)) := by rw [← Hms.out]; simp [strsV, List.map_set]
        rw [es] at hset
        have Hs := hide hset
        have Hg := hide hgs
        clear hset hgs es hvv hu hown hgr bq
        go_wp2
        go_roundw
        case rel => exact ⟨j + 1, by omega, by go_num, by go_num, Hs.out, Hg.out⟩
        case measure => simp [intOf]; omega
      · have hj2 : j = xs.length := by omega
        have Ho := hide hown
        have Hg := hide hgr
        clear hown hgr h
        go_wp2
        go_ret
        subst hj2
        refine ⟨rfl, ?_, Hg.out⟩
        have := Ho.out
        rw [List.drop_length, List.append_nil] at this
        exact this

theorem heldStringS_yes (v : Value) (n : Nat) (k : Int) (w : World) (h : StrsAt w w.heap.size v (smarks k n)) (hk0 : 0 ≤ k) (hk1 : k ≤ 1099511627776) (hl : n ≤ 1073741824) :
    Calls Try.prog 24 #[v, .int .i64 k] w fun e w' => RetN w (k + n) e w' := by
  have h0 := h
  obtain ⟨A, c, rfl, hc, he⟩ := formS_ h
  clear h
  rw [smarks_len] at hc he h0 ⊢
  have H0 := hide h0
  have He := hide he
  clear h0 he
  go_enter Try.func24, Try.ntmps24
  go_wp2
  go_loopw [1, 5] (fun m i wr => ∃ (j : Nat), j ≤ n ∧ i = .int .i64 j ∧ m = .int .i64 (k + j) ∧ Below w.heap.size w wr) (fun _ i _ => n - (intOf i).toNat)
  case atStart => exact ⟨0, by omega, rfl, by simp, Below.refl _ _⟩
  case round =>
    obtain ⟨j, hj, rfl, rfl, hb⟩ := hrel
    by_cases hlt : j < n
    · obtain ⟨b, o, x, rfl, hbb, hx, hcx⟩ := He.out j hlt
      rw [smarks_get _ _ _ hlt] at hx
      obtain rfl := Option.some.inj hx
      clear hx
      have hcr : wr.cell? ⟨b, o + j, none⟩ = some (.string ⟨(markTxt (k + j)).toArray⟩) := (hb.cell (p := ⟨b, o + j, none⟩) hbb).trans hcx
      have hS : Hid (∀ W W' : World, (W.cell? ⟨b, o + j, none⟩ = some (.string ⟨(markTxt (k + j)).toArray⟩) ∧ Below w.heap.size w W) → Below W.heap.size W W' → (W'.cell? ⟨b, o + j, none⟩ = some (.string ⟨(markTxt (k + j)).toArray⟩) ∧ Below w.heap.size w W')) := by
        intro W W' ⟨h1, h2⟩ h3
        exact ⟨(h3.cell (p := ⟨b, o + j, none⟩) (World.block_lt_of_cell? _ _ h1)).trans h1, nxt h2 h3⟩
      go_wp2
      go_region_held3 (fun W => W.cell? ⟨b, o + j, none⟩ = some (.string ⟨(markTxt (k + j)).toArray⟩) ∧ Below w.heap.size w W) (first | exact ⟨hcr, hb.drew⟩ | exact hS.out _ _ (by assumption) (by assumption) | go_keep) (first | (go_at_call 26; refine (markText_any _ _ (by omega)).mono ?_; rintro e wq ⟨rfl, bq⟩))
      go_wp2
      go_roundw
      case rel => rename_i hHeld; exact ⟨j + 1, by omega, by go_num, by go_num, hHeld.2⟩
      case measure => simp [intOf]; omega
    · obtain rfl : j = n := by omega
      go_wp2
      go_ret
      exact ⟨rfl, hb⟩
end Go.Proofs.Ytdcaecklafppkaa
