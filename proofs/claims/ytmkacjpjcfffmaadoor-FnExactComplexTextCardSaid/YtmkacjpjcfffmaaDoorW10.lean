/- Walks: IsComplex, in the program and in the reference. -/
import Derived.Test.YtmkacjpjcfffmaaDoorW5
import Derived.Test.YtmkacjpjcfffmaaDoorMathCx
namespace Go.Proofs.YtmkacjpjcfffmaaDoor
open Go.RowKit

def notBitX (s t : Nat) : Bool := (bits BinOp.andNot IntKind.i64 (s : Int) (t : Int) == 0) == sub s t
theorem notBitX_all : ((List.range 64).all fun s => (List.range 64).all fun t => notBitX s t) = true := by decide +kernel
theorem not_bitX {s t : Nat} (hs : s < 64) (ht : t < 64) : (bits BinOp.andNot IntKind.i64 (s : Int) (t : Int) == 0) = sub s t := by
  have h1 := List.all_eq_true.1 (List.all_eq_true.1 notBitX_all s (List.mem_range.2 hs)) t (List.mem_range.2 ht)
  unfold notBitX at h1
  simpa using h1
theorem any_snocX {α : Type} (l : List α) (f : α → Bool) (k : Nat) (t : α) (h : l[k]? = some t) : (l.take (k + 1)).any f = ((l.take k).any f || f t) := by
  rw [take_snoc _ _ _ h, List.any_append]
  simp

theorem isAntichainI (n : Int) (v : Value) (xs : List Int) (w : World) (h : IntsAt w w.heap.size v xs) (hl : xs.length ≤ 1073741824) :
    Calls Tryd.prog 39 #[.int .i64 n, v] w fun e w' => e = .returned (.bool (isCx n xs)) ∧ w = w' := by
  obtain ⟨A, c, rfl, hcap, he⟩ := form_ h
  have He := hide he
  clear h he
  by_cases hn : 1 ≤ n ∧ n ≤ 6
  · obtain ⟨hn1, hn2⟩ := hn
    go_enter Tryd.func39, Tryd.ntmps39
    go_wp2
    go_loop [5, 6, 19] (fun _ _ i => ∃ k : Nat, k ≤ xs.length ∧ i = .int .i64 k ∧ Hid (∀ j, j < k → cxFirst n xs j = true)) (fun _ _ i => xs.length - (intOf i).toNat)
    case atStart => exact ⟨0, by omega, rfl, fun j hj => by omega⟩
    case round =>
      obtain ⟨k, hk, rfl, hok⟩ := hrel
      by_cases hlt : k < xs.length
      · obtain ⟨b, o, x, rfl, hb, hx, hcx⟩ := He.out k hlt
        have Hx := hide hx
        have Hgx := hide (getD_of hx)
        clear hx
        cases hset : isSetB n x
        · have H := hide (isCx_first hlt (show cxFirst n xs k = false by unfold cxFirst; rw [Hgx.out, hset]; rfl))
          go_wp2_with (go_at_call 46; refine (isSetI _ _ _).mono ?_; rintro e w' ⟨rfl, rfl⟩)
          go_ret
          exact ⟨ret_bool H.out.symm, rfl⟩
        · by_cases hk0 : 0 < k
          · obtain ⟨b', o', y, hA, hb', hy, hcy⟩ := He.out (k - 1) (by omega)
            cases hA
            have Hgy := hide (getD_of hy)
            have Hys := hide (isSetB_64 (cxFirst_set hy (hok.out (k - 1) (by omega))))
            have Hxs := hide (isSetB_64 hset)
            have Hbe := hide (beforeSet_yes Hys.out Hxs.out)
            have hk0e : ((k : Int) > 0) := by omega
            clear hy hb'
            cases hbf : beforeI y x
            · have H := hide (isCx_first hlt (show cxFirst n xs k = false by
                unfold cxFirst
                rw [Hgx.out, Hgy.out, hbf]
                have : (k == 0) = false := by simp; omega
                simp [this]))
              have hbs : beforeSet y x = false := by rw [Hbe.out]; exact hbf
              clear hbf
              go_wp2_with (first | (go_at_call 46; refine (isSetI _ _ _).mono ?_; rintro e w' ⟨rfl, rfl⟩) | (go_at_call 47; refine (beforeSetI _ _ _).mono ?_; rintro e w' ⟨rfl, rfl⟩))
              go_ret
              exact ⟨ret_bool H.out.symm, rfl⟩
            · have Hok2 : Hid (∀ j, j < k + 1 → cxFirst n xs j = true) := by
                intro j hj
                rcases Nat.lt_or_ge j k with h | h
                · exact hok.out j h
                · obtain rfl : j = k := by omega
                  unfold cxFirst
                  rw [Hgx.out, Hgy.out, hbf, hset]
                  simp
              have hbs : beforeSet y x = true := by rw [Hbe.out]; exact hbf
              clear hbf
              go_wp2_with (first | (go_at_call 46; refine (isSetI _ _ _).mono ?_; rintro e w' ⟨rfl, rfl⟩) | (go_at_call 47; refine (beforeSetI _ _ _).mono ?_; rintro e w' ⟨rfl, rfl⟩))
              go_round
              case rel => exact ⟨k + 1, by omega, by go_num, Hok2⟩
              case measure => simp [intOf]; omega
          · obtain rfl : k = 0 := by omega
            simp only [Nat.add_zero] at hcx
            have Hok2 : Hid (∀ j, j < 0 + 1 → cxFirst n xs j = true) := by
              intro j hj
              obtain rfl : j = 0 := by omega
              unfold cxFirst
              rw [Hgx.out, hset]
              rfl
            go_wp2_with (go_at_call 46; refine (isSetI _ _ _).mono ?_; rintro e w' ⟨rfl, rfl⟩)
            go_round
            case rel => exact ⟨0 + 1, by omega, by go_num, Hok2⟩
            case measure => simp [intOf]; omega
      · have Hall : Hid (∀ j, j < xs.length → cxFirst n xs j = true) := fun j hj => hok.out j (by omega)
        have Hsets : Hid (∀ (j : Nat) (x : Int), xs[j]? = some x → ∃ m : Nat, x = (m : Int) ∧ m < 64) := by
          intro j x hx
          have hj := (List.getElem?_eq_some_iff.1 hx).1
          obtain ⟨h0, h1⟩ := isSetB_64 (cxFirst_set hx (Hall.out j hj))
          obtain ⟨m, rfl⟩ := Int.eq_ofNat_of_zero_le h0
          exact ⟨m, rfl, by omega⟩
        clear hok
        go_wp2
        go_loop [7, 8, 43] (fun _ _ i => ∃ k : Nat, k ≤ xs.length ∧ i = .int .i64 k ∧ Hid (∀ j, j < k → cxRow xs j = false)) (fun _ _ i => xs.length - (intOf i).toNat)
        case atStart => exact ⟨0, by omega, rfl, fun j hj => by omega⟩
        case round =>
          clear hlt hk
          obtain ⟨k, hk, rfl, hok⟩ := hrel
          by_cases hlt : k < xs.length
          · obtain ⟨b, o, x, rfl, hb, hx, hcx⟩ := He.out k hlt
            obtain ⟨s, rfl, hs64⟩ := Hsets.out k x hx
            have Hgx := hide (getD_of hx)
            clear hx
            by_cases hlast : xs.length ≤ k + 1
            · have Hok2 : Hid (∀ j, j < k + 1 → cxRow xs j = false) := by
                intro j hj
                rcases Nat.lt_or_ge j k with h | h
                · exact hok.out j h
                · obtain rfl : j = k := by omega
                  exact cxRow_last hlast
              have hz : ((xs.length : Int) - ((k : Int) + 1)) = 0 := by omega
              by_cases hcap2 : c = k + 1
              · subst hcap2
                go_wp2
                refine wp_loop_rounds 1 ?_
                rw [rounds_succ]
                go_wp2
                go_round
                case rel => exact ⟨k + 1, by omega, by go_num, Hok2⟩
                case measure => simp [intOf]; omega
              · go_wp2
                refine wp_loop_rounds 1 ?_
                rw [rounds_succ]
                go_wp2
                go_round
                case rel => exact ⟨k + 1, by omega, by go_num, Hok2⟩
                case measure => simp [intOf]; omega
            · have hcap3 : ¬ c = k + 1 := by omega
              have hlt3 : k + 1 < xs.length := by omega
              have Hr : Hid (∀ (i : Nat), i < xs.length - (k + 1) → ∃ t : Nat, (xs.drop (k + 1))[i]? = some (t : Int) ∧ w.cell? ⟨b, o + (k + 1) + i, none⟩ = some (.int .i64 (t : Int)) ∧ t < 64) := by
                intro i hi
                obtain ⟨b', o', y, hA, hb', hy, hcy⟩ := He.out (k + 1 + i) (by omega)
                cases hA
                obtain ⟨t, rfl, ht⟩ := Hsets.out _ _ hy
                exact ⟨t, by rw [List.getElem?_drop]; exact hy, by rw [show o + (k + 1) + i = o + (k + 1 + i) from by omega]; exact hcy, ht⟩
              have Hrl := hide (List.length_drop (i := k + 1) (l := xs))
              clear hlast
              go_wp2
              go_loop [10, 53] (fun _ j => ∃ i : Nat, i ≤ xs.length - (k + 1) ∧ j = .int .i64 i ∧ Hid (((xs.drop (k + 1)).take i).any (fun t => sub s t.toNat) = false)) (fun _ j => xs.length - (k + 1) - (intOf j).toNat)
              case atStart => exact ⟨0, by omega, rfl, by simp [Hid]⟩
              case round =>
                obtain ⟨i, hi, rfl, hno⟩ := hrel
                by_cases hil : i < xs.length - (k + 1)
                · obtain ⟨t, ht, hct, ht64⟩ := Hr.out i hil
                  have hnb := not_bitX hs64 ht64
                  have Han := hide (any_snocX _ (fun t => sub s t.toNat) i _ ht)
                  clear ht
                  cases hsub : sub s t
                  · rw [hsub] at hnb
                    have Hn2 : Hid (((xs.drop (k + 1)).take (i + 1)).any (fun t => sub s t.toNat) = false) := by show _ = _; rw [Han.out, hno.out, Int.toNat_natCast, hsub]; rfl
                    clear hsub
                    go_wp2
                    go_round
                    case rel => exact ⟨i + 1, by omega, by go_num, Hn2⟩
                    case measure => simp [intOf]; omega
                  · rw [hsub] at hnb
                    have H := hide (row_no (n := n) hlt (show cxRow xs k = true by
                      unfold cxRow
                      rw [Hgx.out, Int.toNat_natCast, ← List.take_append_drop (i + 1) (xs.drop (k + 1)), List.any_append, Han.out, Int.toNat_natCast, hsub]
                      simp))
                    clear hsub
                    go_wp2
                    go_ret
                    exact ⟨ret_bool H.out.symm, rfl⟩
                · have Hok2 : Hid (∀ j, j < k + 1 → cxRow xs j = false) := by
                    intro j hj
                    rcases Nat.lt_or_ge j k with h | h
                    · exact hok.out j h
                    · obtain rfl : j = k := by omega
                      have := hno.out
                      rw [take_all _ _ (by rw [Hrl.out]; omega)] at this
                      unfold cxRow
                      rw [Hgx.out, Int.toNat_natCast]
                      exact this
                  go_wp2
                  go_round
                  case rel => exact ⟨k + 1, by omega, by go_num, Hok2⟩
                  case measure => simp [intOf]; omega
          · have H := hide (isCx_mk ⟨hn1, hn2⟩ Hall.out (rows_no (fun i hi => hok.out i (by omega))))
            go_wp2
            go_ret
            exact ⟨ret_bool H.out.symm, rfl⟩
  · have H := hide (isCx_n (xs := xs) hn)
    by_cases h1 : n < 1
    · go_enter Tryd.func39, Tryd.ntmps39
      go_wp2
      go_ret
      exact ⟨ret_bool H.out.symm, rfl⟩
    · have h2 : 6 < n := by omega
      clear hn
      go_enter Tryd.func39, Tryd.ntmps39
      go_wp2
      go_ret
      exact ⟨ret_bool H.out.symm, rfl⟩

theorem isComplexI (n : Int) (v : Value) (xs : List Int) (w : World) (h : IntsAt w w.heap.size v xs) (hl : xs.length ≤ 1073741824) :
    Calls Tryd.prog 24 #[.agg #[.int .i64 n, v]] w fun e w' => RetB w (isCx n xs) e w' := by
  have ha := ReadsV.alloc h (.cells #[.int .i64 n, v] 29)
  obtain ⟨A, c, rfl⟩ := reads_shape h
  go_enter Tryd.func24, Tryd.ntmps24
  go_wp2_with fail
  refine (isAntichainI n _ xs _ ha hl).mono ?_
  rintro e w1 ⟨rfl, rfl⟩
  go_wp2
  go_ret
  exact ⟨rfl, below_alloc _ _⟩

theorem cxNo_snoc {xs : List Int} {k i : Nat} {x a : Int} (ha : xs[i]? = some a) (hik : i < k) (h : ((xs.take k).take i).all (fun a => !sub a.toNat x.toNat) = true) :
    ((xs.take k).take (i + 1)).all (fun a => !sub a.toNat x.toNat) = !sub a.toNat x.toNat := by
  have hi : (xs.take k)[i]? = some a := by
    rw [List.getElem?_take, if_pos hik]
    exact ha
  rw [take_snoc _ _ _ hi, List.all_append, h]
  simp
def andBitX (s t : Nat) : Bool := (bits BinOp.and IntKind.i64 (s : Int) (t : Int) == (s : Int)) == sub s t
theorem andBitX_all : ((List.range 64).all fun s => (List.range 64).all fun t => andBitX s t) = true := by decide +kernel
theorem and_bitX {s t : Nat} (hs : s < 64) (ht : t < 64) : (bits BinOp.and IntKind.i64 (s : Int) (t : Int) == (s : Int)) = sub s t := by
  have h1 := List.all_eq_true.1 (List.all_eq_true.1 andBitX_all s (List.mem_range.2 hs)) t (List.mem_range.2 ht)
  unfold andBitX at h1
  simpa using h1
theorem bound64 {x : Int} (h : 0 ≤ x ∧ x < 64) : x ≤ 9223372036854775807 := by omega

theorem isComplexS (n : Int) (v : Value) (xs : List Int) (w : World) (h : IntsAt w w.heap.size v xs) (hl : xs.length ≤ 1073741824) :
    Calls Tryd.prog 21 #[.agg #[.int .i64 n, v]] w fun e w' => RetB w (isCx n xs) e w' := by
  have ha := ReadsV.alloc' h (Nat.le_refl _) (.cells #[.int .i64 n, v] 29)
  have hw0 : Below w.heap.size w (w.alloc (.cells #[.int .i64 n, v] 29)) := below_alloc _ _
  have e0 : (w.alloc (.cells #[.int .i64 n, v] 29)).cell? ⟨w.heap.size, 0, none⟩ = some (.int .i64 n) := World.cell?_alloc_at _ _ _ _ rfl
  have e1 : (w.alloc (.cells #[.int .i64 n, v] 29)).cell? ⟨w.heap.size, 1, none⟩ = some v := World.cell?_alloc_at _ _ _ _ rfl
  obtain ⟨A, c, rfl, hcap, he⟩ := form_ ha
  have He := hide he
  have Hw0 := hide hw0
  clear h he ha hw0
  generalize hW : w.alloc (.cells #[.int .i64 n, .slice A xs.length c] 29) = W at He Hw0 e0 e1
  go_enter Tryd.func21, Tryd.ntmps21
  go_wp2_with fail
  clear hW
  go_loopw [3] (fun i wr => ∃ k q : Nat, k ≤ xs.length ∧ i = .int .i64 k ∧ wr = W.drewN q ∧ Hid ((∀ j, j < k → cxFirst n xs j = true) ∧ (∀ j, j < k → cxNo xs j = true))) (fun i _ => xs.length - (intOf i).toNat)
  case atStart => exact ⟨0, 0, by omega, rfl, rfl, fun j hj => by omega, fun j hj => by omega⟩
  case round =>
    obtain ⟨k, q, hk, rfl, rfl, hok⟩ := hrel
    by_cases hlt : k < xs.length
    · obtain ⟨b, o, x, rfl, hb, hx, hcx⟩ := He.out k hlt
      have Hx := hide hx
      have Hgx := hide (getD_of hx)
      clear hx
      cases hset : isSetB n x
      · have H := hide (isCx_first hlt (show cxFirst n xs k = false by unfold cxFirst; rw [Hgx.out, hset]; rfl))
        go_wp2
        go_quiet ((go_at_call 34; exact quiet_add_left (isSetS _ _ _)))
        go_wp2
        go_ret
        exact ⟨ret_bool H.out.symm, below_drewN (below_drewN Hw0.out _) _⟩
      · have Hxs := hide (isSetB_64 hset)
        have hxb := hide (bound64 Hxs.out)
        by_cases hk0 : 0 < k
        · obtain ⟨b', o', y, hA, hb', hy, hcy⟩ := He.out (k - 1) (by omega)
          cases hA
          have Hgy := hide (getD_of hy)
          have Hys := hide (isSetB_64 (cxFirst_set hy (hok.out.1 (k - 1) (by omega))))
          have hyb := hide (bound64 Hys.out)
          have hk0e : decide ((0 : Int) < (k : Int)) = true := by simp; omega
          clear hy hb'
          cases hbf : beforeI y x
          · have H := hide (isCx_first hlt (show cxFirst n xs k = false by
              unfold cxFirst
              rw [Hgx.out, Hgy.out, hbf]
              have : (k == 0) = false := by simp; omega
              simp [this]))
            go_wp2
            go_quiet ((first | (go_at_call 34; exact quiet_add_left (isSetS _ _ _)) | (go_at_call 35; exact quiet_add_left (l2BeforeS _ _ _ hyb.out hxb.out))))
            go_wp2
            go_ret
            exact ⟨ret_bool H.out.symm, below_drewN (below_drewN Hw0.out _) _⟩
          · have Hfirst : Hid (∀ j, j < k + 1 → cxFirst n xs j = true) := by
              intro j hj
              rcases Nat.lt_or_ge j k with h | h
              · exact hok.out.1 j h
              · obtain rfl : j = k := by omega
                unfold cxFirst
                rw [Hgx.out, Hgy.out, hbf, hset]
                simp
            obtain ⟨s, rfl⟩ := Int.eq_ofNat_of_zero_le Hxs.out.1
            have hs64 : s < 64 := by have := Hxs.out.2; omega
            have Hr : Hid (∀ (i : Nat), i < k → ∃ t : Nat, xs[i]? = some (t : Int) ∧ W.cell? ⟨b, o + i, none⟩ = some (.int .i64 (t : Int)) ∧ t < 64) := by
              intro i hi
              obtain ⟨b', o', y, hA, hb', hy, hcy⟩ := He.out i (by omega)
              cases hA
              obtain ⟨h0, h1⟩ := isSetB_64 (cxFirst_set hy (hok.out.1 i hi))
              obtain ⟨t, rfl⟩ := Int.eq_ofNat_of_zero_le h0
              exact ⟨t, hy, hcy, by omega⟩
            have hdk : decide ((k : Int) < (xs.length : Int)) = true := by simp; omega
            go_wp2
            go_quiet ((first | (go_at_call 34; exact quiet_add_left (isSetS _ _ _)) | (go_at_call 35; exact quiet_add_left (l2BeforeS _ _ _ hyb.out hxb.out))))
            clear hk0e
            go_wp2
            go_loopw [4] (fun i wr => ∃ m q : Nat, m ≤ k ∧ i = .int .i64 m ∧ wr = W.drewN q ∧ Hid (((xs.take k).take m).all (fun a => !sub a.toNat ((s : Int)).toNat) = true)) (fun i _ => k - (intOf i).toNat)
            case atStart => exact ⟨0, _, by omega, rfl, World.drewN_drewN .., by simp [Hid]⟩
            case round =>
              obtain ⟨m, q2, hm, rfl, rfl, hno⟩ := hrel
              by_cases hmk : m < k
              · obtain ⟨t, ht, hct, ht64⟩ := Hr.out m hmk
                have hab := and_bitX ht64 hs64
                have Hsn := hide (cxNo_snoc (x := (s : Int)) ht hmk hno.out)
                have Ht := hide ht
                clear ht
                cases hsub : sub t s
                · rw [hsub] at hab
                  have Hn2 : Hid (((xs.take k).take (m + 1)).all (fun a => !sub a.toNat ((s : Int)).toNat) = true) := by show _ = _; rw [Hsn.out, Int.toNat_natCast, Int.toNat_natCast, hsub]; rfl
                  clear hsub
                  go_wp2
                  go_quiet (fail)
                  go_wp2
                  go_roundw
                  case rel => exact ⟨m + 1, _, by omega, by go_num, rfl, Hn2⟩
                  case measure => simp [intOf]; omega
                · rw [hsub] at hab
                  have H := hide (isCx_no (n := n) hlt (show cxNo xs k = false by
                    unfold cxNo
                    rw [Hgx.out, ← List.take_append_drop (m + 1) (xs.take k), List.all_append, Hsn.out, Int.toNat_natCast, Int.toNat_natCast, hsub]
                    rfl))
                  clear hsub
                  go_wp2
                  go_quiet (fail)
                  go_wp2
                  go_ret
                  exact ⟨ret_bool H.out.symm, below_drewN (below_drewN Hw0.out _) _⟩
              · have Hno2 : Hid (∀ j, j < k + 1 → cxNo xs j = true) := by
                  intro j hj
                  rcases Nat.lt_or_ge j k with h | h
                  · exact hok.out.2 j h
                  · obtain rfl : j = k := by omega
                    unfold cxNo
                    rw [Hgx.out]
                    have := hno.out
                    rwa [take_all _ _ (by rw [List.length_take]; omega)] at this
                go_wp2
                go_roundw
                case rel => exact ⟨k + 1, _, by omega, by go_num, rfl, Hfirst.out, Hno2.out⟩
                case measure => simp [intOf]; omega
        · obtain rfl : k = 0 := by omega
          simp only [Nat.add_zero] at hcx
          have Hfirst : Hid (∀ j, j < 0 + 1 → cxFirst n xs j = true) := by
            intro j hj
            obtain rfl : j = 0 := by omega
            unfold cxFirst
            rw [Hgx.out, hset]
            rfl
          have Hno2 : Hid (∀ j, j < 0 + 1 → cxNo xs j = true) := by
            intro j hj
            obtain rfl : j = 0 := by omega
            rfl
          go_wp2
          go_quiet ((go_at_call 34; exact quiet_add_left (isSetS _ _ _)))
          go_wp2
          refine wp_loop_rounds 1 ?_
          rw [rounds_succ]
          go_wp2
          go_roundw
          case rel => exact ⟨0 + 1, _, by omega, by go_num, rfl, Hfirst.out, Hno2.out⟩
          case measure => simp [intOf]; omega
    · have Hall := hide (fun (hn : 1 ≤ n ∧ n ≤ 6) => isCx_mk hn (fun j hj => hok.out.1 j (by omega)) (fun j hj => hok.out.2 j (by omega)))
      go_wp2_with fail
      refine (l1InS _ _ _ _).mono ?_
      rintro e w' ⟨rfl, rfl⟩
      go_wp2
      go_ret
      refine ⟨ret_bool ?_, below_drewN Hw0.out _⟩
      by_cases hn : 1 ≤ n ∧ n ≤ 6
      · rw [Hall.out hn]
        exact inB_mk hn
      · rw [isCx_n hn]
        exact inB_no hn
end Go.Proofs.YtmkacjpjcfffmaaDoor
