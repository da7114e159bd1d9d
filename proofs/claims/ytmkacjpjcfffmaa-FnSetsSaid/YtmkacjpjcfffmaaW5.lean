/- Walks: families of sets as numbers. -/
import Derived.Test.YtmkacjpjcfffmaaW4
namespace Go.Proofs.Ytmkacjpjcfffmaa
open Go.RowKit

/-- The order of two sets; of what is no set, false. -/
def beforeSet (a b : Int) : Bool := decide (0 ≤ a ∧ a < 64) && decide (0 ≤ b ∧ b < 64) && beforeI a b
theorem beforeSet_yes {a b : Int} (ha : 0 ≤ a ∧ a < 64) (hb : 0 ≤ b ∧ b < 64) : beforeSet a b = beforeI a b := by simp [beforeSet, ha, hb]
theorem beforeSet_no1 {a b : Int} (ha : ¬ (0 ≤ a ∧ a < 64)) : beforeSet a b = false := by unfold beforeSet; rw [decide_eq_false ha]; rfl
theorem beforeSet_no2 {a b : Int} (hb : ¬ (0 ≤ b ∧ b < 64)) : beforeSet a b = false := by unfold beforeSet; rw [decide_eq_false hb]; simp

theorem beforeSetI (a b : Int) (w : World) : Calls Try.prog 92 #[.int .i64 a, .int .i64 b] w fun e w' => e = .returned (.bool (beforeSet a b)) ∧ w = w' := by
  by_cases ha : 0 ≤ a ∧ a < 64
  · have h1 : isSetB 6 a = true := by rw [isSetB_six]; exact decide_eq_true ha
    by_cases hb : 0 ≤ b ∧ b < 64
    · have h2 : isSetB 6 b = true := by rw [isSetB_six]; exact decide_eq_true hb
      obtain ⟨x, rfl⟩ := Int.eq_ofNat_of_zero_le ha.1
      obtain ⟨y, rfl⟩ := Int.eq_ofNat_of_zero_le hb.1
      have H := hide (show beforeSet (x : Int) (y : Int) = (decide (pc x < pc y) || (decide (pc x = pc y) && decide (x < y))) by
        rw [beforeSet_yes ha hb]
        simp [beforeI])
      have sx := sizeOf_yes (s := x) (by omega)
      have sy := sizeOf_yes (s := y) (by omega)
      generalize pc x = p at H sx
      generalize pc y = q at H sy
      by_cases hpq : p = q
      · subst hpq
        have hne : ((p : Int) != (p : Int)) = false := by simp
        go_enter Try.func92, Try.ntmps92
        go_wp2_with (first | (go_at_call 86; refine (isSetI _ _ _).mono ?_; rintro e w' ⟨rfl, rfl⟩) | (go_at_call 94; refine (sizeOfI _ _).mono ?_; rintro e w' ⟨rfl, rfl⟩))
        go_ret
        exact ⟨ret_bool (by rw [H.out]; simp), rfl⟩
      · have hne : ((p : Int) != (q : Int)) = true := by simp; omega
        go_enter Try.func92, Try.ntmps92
        go_wp2_with (first | (go_at_call 86; refine (isSetI _ _ _).mono ?_; rintro e w' ⟨rfl, rfl⟩) | (go_at_call 94; refine (sizeOfI _ _).mono ?_; rintro e w' ⟨rfl, rfl⟩))
        go_ret
        exact ⟨ret_bool (by rw [H.out]; simp [hpq]), rfl⟩
    · have h2 : isSetB 6 b = false := by rw [isSetB_six]; exact decide_eq_false hb
      have H := hide (beforeSet_no2 (a := a) hb)
      clear ha hb
      go_enter Try.func92, Try.ntmps92
      go_wp2_with (go_at_call 86; refine (isSetI _ _ _).mono ?_; rintro e w' ⟨rfl, rfl⟩)
      go_ret
      exact ⟨ret_bool H.out.symm, rfl⟩
  · have h1 : isSetB 6 a = false := by rw [isSetB_six]; exact decide_eq_false ha
    have H := hide (beforeSet_no1 (b := b) ha)
    clear ha
    go_enter Try.func92, Try.ntmps92
    go_wp2_with (go_at_call 86; refine (isSetI _ _ _).mono ?_; rintro e w' ⟨rfl, rfl⟩)
    go_ret
    exact ⟨ret_bool H.out.symm, rfl⟩

theorem beforeSetS (a b : Int) (w : World) : Calls Try.prog 93 #[.int .i64 a, .int .i64 b] w fun e w' => e = .returned (.bool (beforeSet a b)) ∧ w = w' := by
  by_cases ha : 0 ≤ a ∧ a < 64
  · have h1 : inB a 0 63 = true := inB_mk ⟨ha.1, by omega⟩
    by_cases hb : 0 ≤ b ∧ b < 64
    · have h2 : inB b 0 63 = true := inB_mk ⟨hb.1, by omega⟩
      have H := hide (beforeSet_yes ha hb)
      obtain ⟨a1, a2⟩ := ha
      obtain ⟨b1, b2⟩ := hb
      go_enter Try.func93, Try.ntmps93
      go_wp2_with (first | (go_at_call 120; refine (l1InS _ _ _ _).mono ?_; rintro e w' ⟨rfl, rfl⟩) | (go_at_call 149; refine (l2BeforeS _ _ _ (by omega) (by omega)).mono ?_; rintro e w' ⟨rfl, rfl⟩))
      go_ret
      exact ⟨ret_bool H.out.symm, rfl⟩
    · have h2 : inB b 0 63 = false := inB_no (fun h => hb ⟨h.1, by omega⟩)
      have H := hide (beforeSet_no2 (a := a) hb)
      clear ha hb
      go_enter Try.func93, Try.ntmps93
      go_wp2_with (go_at_call 120; refine (l1InS _ _ _ _).mono ?_; rintro e w' ⟨rfl, rfl⟩)
      go_ret
      exact ⟨ret_bool H.out.symm, rfl⟩
  · have h1 : inB a 0 63 = false := inB_no (fun h => ha ⟨h.1, by omega⟩)
    have H := hide (beforeSet_no1 (b := b) ha)
    clear ha
    go_enter Try.func93, Try.ntmps93
    go_wp2_with (go_at_call 120; refine (l1InS _ _ _ _).mono ?_; rintro e w' ⟨rfl, rfl⟩)
    go_ret
    exact ⟨ret_bool H.out.symm, rfl⟩

theorem or_fam (P : Nat → Bool) (m : Nat) (hm : m < 64) : bits BinOp.or IntKind.u64 (fam P : Int) (IntKind.u64.wrap (2 ^ m)) = ((fam (fun s => P s || s == m) : Nat) : Int) := by
  have hp : 2 ^ m < 18446744073709551616 := Nat.pow_lt_pow_right (n := 64) (by omega) hm
  have e : ((2 : Int) ^ m) = ((2 ^ m : Nat) : Int) := by simp
  have hf := fam_lt P
  rw [← fam_add P m hm, e]
  generalize 2 ^ m = q at hp
  rw [IntWalk.u64_in _ (by omega), u64_or_nat _ _ hf hp]

/-- The call returns a family's number and a bool. -/
def RetFB (w : World) (F : Nat) (b : Bool) (e : Ending) (w' : World) : Prop := e = .returned (.tuple #[.int .u64 (F : Int), .bool b]) ∧ w = w'
theorem familyOfI (v : Value) (xs : List Int) (w : World) (h : IntsAt w w.heap.size v xs) (hl : xs.length ≤ 1073741824) :
    Calls Try.prog 143 #[v] w fun e w' => RetFB w (famRes xs) (allSets xs) e w' := by
  obtain ⟨A, c, rfl, hc, he⟩ := form_ h
  have He := hide he
  clear h he
  go_enter Try.func143, Try.ntmps143
  go_wp2
  go_loop [4, 9] (fun f i => ∃ k : Nat, k ≤ xs.length ∧ i = .int .i64 k ∧ Hid (allSets (xs.take k) = true) ∧ f = .int .u64 (famList (xs.take k) : Int)) (fun _ i => xs.length - (intOf i).toNat)
  case atStart => exact ⟨0, by omega, rfl, rfl, by
    rw [List.take_zero, famList_nil]; rfl⟩
  case round =>
    obtain ⟨k, hk, rfl, ha, rfl⟩ := hrel
    by_cases hlt : k < xs.length
    · obtain ⟨b, o, x, rfl, hb, hx, hcx⟩ := He.out k hlt
      have Hs := hide (take_snoc _ _ _ hx)
      clear hx
      by_cases hx2 : 0 ≤ x ∧ x < 64
      · have h1 : isSetB 6 x = true := by rw [isSetB_six]; exact decide_eq_true hx2
        have Ha : Hid (allSets (xs.take (k + 1)) = true) := by
          show _ = _
          rw [Hs.out, allSets_snoc, ha.out, decide_eq_true hx2]
          rfl
        obtain ⟨m, rfl⟩ := Int.eq_ofNat_of_zero_le hx2.1
        have hm : m < 64 := by omega
        have Hf := hide (or_fam (inList (xs.take k)) m hm)
        have Hf2 := hide (show fam (fun s => inList (xs.take k) s || s == m) = famList (xs.take (k + 1)) by
          unfold famList
          apply fam_congr
          intro s _
          rw [Hs.out, inList_snoc])
        clear hx2
        go_wp2_with (go_at_call 86; refine (isSetI _ _ _).mono ?_; rintro e w' ⟨rfl, rfl⟩)
        go_round
        case rel => exact ⟨k + 1, by omega, by go_num, Ha, by
          show Value.int .u64 (bits BinOp.or IntKind.u64 (fam (inList (xs.take k)) : Int) (IntKind.u64.wrap (2 ^ m))) = _
          rw [Hf.out, Hf2.out]⟩
        case measure => simp [intOf]; omega
      · have h1 : isSetB 6 x = false := by rw [isSetB_six]; exact decide_eq_false hx2
        have H := hide (allSets_take_false (xs := xs) (k := k + 1) (by rw [Hs.out, allSets_snoc, decide_eq_false hx2]; simp))
        clear hx2
        go_wp2_with (go_at_call 86; refine (isSetI _ _ _).mono ?_; rintro e w' ⟨rfl, rfl⟩)
        go_ret2
        refine ⟨?_, rfl⟩
        rw [H.out, famRes_no H.out]
        rfl
    · have Hk := hide (show xs.take k = xs from take_all _ _ (by omega))
      go_wp2
      go_ret2
      refine ⟨?_, rfl⟩
      have := ha.out
      rw [Hk.out] at this ⊢
      rw [this, famRes_yes this]
      rfl

theorem setsInI (P : Nat → Bool) (w : World) : Calls Try.prog 148 #[.int .u64 (fam P : Int)] w fun e w' => RetI 3 w (zs (listOf P)) e w' := by
  have hF := fam_lt P
  have hB : ∀ s, s < 64 → (fam P).testBit s = P s := fun s hs => by rw [fam_bit]; simp [hs]
  have HB := hide hB
  clear hB
  generalize hFF : fam P = F at hF HB
  clear hFF
  go_enter Try.func148, Try.ntmps148
  go_wp2
  go_loopw [3, 4] (fun v i wr => ∃ k : Nat, k ≤ 7 ∧ i = .int .i64 k ∧ OwnV 3 wr w.heap.size v (ints (zs (lows P k))) ∧ Below w.heap.size w wr) (fun _ i _ => 7 - (intOf i).toNat)
  case atStart => exact ⟨0, by omega, rfl, own_nil _ _, Below.refl _ _⟩
  case round =>
    obtain ⟨k, hk, rfl, hown, hb⟩ := hrel
    have hll := lows_len P k
    by_cases hlt : k < 7
    · obtain ⟨wo, rfl⟩ : ∃ wo : World, wo = wr := ⟨_, rfl⟩
      have hk6 : decide ((k : Int) ≤ 6) = true := by simp; omega
      go_wp2
      go_loopw [3, 5] (fun v i wr => ∃ s : Nat, s ≤ 64 ∧ i = .int .i64 s ∧ OwnV 3 wr w.heap.size v (ints (zs (lows P k ++ layTo P k s))) ∧ Below w.heap.size w wr) (fun _ i _ => 64 - (intOf i).toNat)
      case atStart => exact ⟨0, by omega, rfl, by simpa [layTo] using hown, hb⟩
      case round =>
        clear hown hb
        obtain ⟨s, hs, rfl, hown, hb⟩ := hrel
        have hll2 := layTo_len P k s
        by_cases hlt2 : s < 64
        · have hz := sizeOf_yes hlt2
          have hbt := HB.out s hlt2
          by_cases hps : P s = true ∧ pc s = k
          · obtain ⟨hp1, hp2⟩ := hps
            have Hl := hide (layTo_yes hp1 hp2)
            have hlen : (zs (lows P k ++ layTo P k s)).length < 17179869184 := by simp; omega
            rw [hp1] at hbt
            subst hp2
            clear hp1
            go_wp2_with (first | (go_at_call 130; refine (hasSetI F s hF hlt2 _).mono ?_; rintro e w' ⟨rfl, rfl⟩) | (go_at_call 94; refine (sizeOfI _ _).mono ?_; rintro e w' ⟨rfl, rfl⟩) | (at_builtin; refine wpList_appI hown s Try.underlying36 infoI rfl _ _ rfl rfl rfl hlen hb.size ?_; intro v' w1 hown1 hb1 _))
            go_roundw
            case rel => exact ⟨s + 1, by omega, by go_num, by rw [Hl.out, ← List.append_assoc, zs_snoc]; exact hown1, hb.trans hb1⟩
            case measure => simp [intOf]; omega
          · have Hl := hide (layTo_no hps)
            cases hp1 : P s
            · rw [hp1] at hbt
              go_wp2_with (first | (go_at_call 130; refine (hasSetI F s hF hlt2 _).mono ?_; rintro e w' ⟨rfl, rfl⟩) | (go_at_call 94; refine (sizeOfI _ _).mono ?_; rintro e w' ⟨rfl, rfl⟩))
              go_roundw
              case rel => exact ⟨s + 1, by omega, by go_num, by rw [Hl.out]; exact hown, hb⟩
              case measure => simp [intOf]; omega
            · rw [hp1] at hbt
              have hne : ((pc s : Int) == (k : Int)) = false := by
                have : ¬ pc s = k := fun e => hps ⟨hp1, e⟩
                simp
                omega
              clear hps hp1
              go_wp2_with (first | (go_at_call 130; refine (hasSetI F s hF hlt2 _).mono ?_; rintro e w' ⟨rfl, rfl⟩) | (go_at_call 94; refine (sizeOfI _ _).mono ?_; rintro e w' ⟨rfl, rfl⟩))
              go_roundw
              case rel => exact ⟨s + 1, by omega, by go_num, by rw [Hl.out]; exact hown, hb⟩
              case measure => simp [intOf]; omega
        · obtain rfl : s = 64 := by omega
          go_wp2
          go_roundw
          case rel => exact ⟨k + 1, by omega, by go_num, by rw [lows_succ, ← layTo_all]; exact hown, hb⟩
          case measure => simp [intOf]; omega
    · obtain rfl : k = 7 := by omega
      go_wp2
      go_ret
      exact ⟨_, rfl, hown, hb⟩

theorem and_pred (t s : Nat) (h0 : 0 < t) (ht : t < 64) (hs : s < 64) : bits BinOp.and IntKind.i64 ((t : Int) - 1) (s : Int) = (((t - 1) &&& s : Nat) : Int) := by
  rw [← i64_and (t - 1) s (by omega) (by omega)]
  congr 1
  omega
theorem subsetFamilyI (s : Nat) (hs : s < 64) (w : World) : Calls Try.prog 151 #[.int .i64 (s : Int)] w fun e w' => e = .returned (.int .u64 (fam (fun u => sub u s) : Int)) ∧ w = w' := by
  go_enter Try.func151, Try.ntmps151
  go_wp2
  go_loop [3, 4] (fun f i => ∃ t : Nat, t < 64 ∧ i = .int .i64 t ∧ Hid (sub t s = true) ∧ f = .int .u64 (fam (fun u => sub u s && decide (t < u)) : Int)) (fun _ i => (intOf i).toNat)
  case atStart => exact ⟨s, hs, rfl, sub_refl s, by rw [above_start hs]; rfl⟩
  case round =>
    obtain ⟨t, ht, rfl, hsub, rfl⟩ := hrel
    have Hf := hide (or_fam (fun u => sub u s && decide (t < u)) t ht)
    by_cases h0 : 0 < t
    · have Hp := hide (prev_sub hs ht hsub.out h0)
      have Hst := hide (above_step hs ht hsub.out h0)
      have hb := and_pred t s h0 ht hs
      have hlt := Hp.out.2.1
      go_wp2
      go_round
      case rel => exact ⟨(t - 1) &&& s, by omega, rfl, Hp.out.1, by rw [Hf.out, Hst.out]⟩
      case measure => simp [intOf]; omega
    · obtain rfl : t = 0 := by omega
      go_wp2
      go_ret
      exact ⟨ret_int (by have := Hf.out; rw [above_all] at this; exact this), rfl⟩
end Go.Proofs.Ytmkacjpjcfffmaa
