/- Walks: ParseSet, in the program and in the reference. -/
import Derived.Test.YtmkacjpjcfffmaaW1
import Derived.Test.YtmkacjpjcfffmaaMathTxt
namespace Go.Proofs.Ytmkacjpjcfffmaa
open Go.RowKit

theorem or_pow (s j : Nat) (h : s < 2 ^ j) : s ||| 2 ^ j = s + 2 ^ j := by
  rw [Nat.or_comm, Nat.add_comm]
  have := Nat.two_pow_add_eq_or_of_lt h 1
  simpa using this.symm
theorem or_step (s j : Nat) (h : s < 2 ^ j) (hj : j ≤ 5) : bits .or .i64 (s : Int) (wrap64 (2 ^ j)) = ((s + 2 ^ j : Nat) : Int) := by
  have hp : 2 ^ j ≤ 32 := Nat.pow_le_pow_right (n := 2) (by omega) hj
  have e : wrap64 (2 ^ j) = ((2 ^ j : Nat) : Int) := by
    have : ((2 : Int) ^ j) = ((2 ^ j : Nat) : Int) := by simp
    rw [this]
    exact IntWalk.wrap64_in _ (by omega)
  rw [e, i64_or s (2 ^ j) (by omega) (by omega), or_pow s j h]
theorem pow_le32 {j : Nat} (h : j ≤ 5) : 2 ^ j ≤ 32 := Nat.pow_le_pow_right (n := 2) (by omega) h

/-- The tuple that ParseSet returns. -/
def PSet (l : List UInt8) (e : Ending) : Prop := e = .returned (.tuple #[.int .i64 ((parseSet l).1 : Int), .bool (parseSet l).2])
theorem PSet_mk {l : List UInt8} {n : Int} {m : Nat} {b : Bool} (h : parseSet l = (m, b)) (hn : n = (m : Int)) : PSet l (.returned (.tuple #[.int .i64 n, .bool b])) := by
  unfold PSet
  rw [h, hn]

theorem parseSetI (l : List UInt8) (w : World) (hs : l.length ≤ 9223372036854775807) :
    Calls Try.prog 80 #[.string ⟨l.toArray⟩] w fun e w' => PSet l e ∧ Below w.heap.size w w' := by
  by_cases hd : l = [45]
  · subst hd
    go_enter Try.func80, Try.ntmps80
    go_wp2
    go_ret2
    exact ⟨PSet_mk parseSet_dash rfl, Below.refl _ _⟩
  · have hq : (l == [45]) = false := by simpa using hd
    by_cases hn : l = []
    · subst hn
      go_enter Try.func80, Try.ntmps80
      go_wp2
      go_ret2
      exact ⟨PSet_mk (m := 0) rfl rfl, Below.refl _ _⟩
    · have hl0 : ((l.length : Int) == 0) = false := by
        have : l.length ≠ 0 := fun h => hn (List.eq_nil_of_length_eq_zero h)
        simp; omega
      have Hd := hide hd
      have Hn := hide hn
      clear hd
      by_cases hl : 6 < l.length
      · have H := hide (parseSet_none l (parseTo_long l hl) Hd.out)
        go_enter Try.func80, Try.ntmps80
        go_wp2
        go_ret2
        exact ⟨PSet_mk H.out rfl, Below.refl _ _⟩
      · have hl6 : l.length ≤ 6 := by omega
        go_enter Try.func80, Try.ntmps80
        go_wp2
        go_loopw [4, 5] (fun t i wr => ∃ (k s n : Nat), k ≤ l.length ∧ i = .int .i64 k ∧ t = .int .i64 s ∧ Hid (parseTo (l.take k) = some s) ∧ wr = w.drewN n) (fun _ i _ => l.length - (intOf i).toNat)
        case atStart => exact ⟨0, 0, 0, by omega, rfl, rfl, rfl, rfl⟩
        case round =>
          obtain ⟨k, s, n, hk, rfl, rfl, hp, rfl⟩ := hrel
          by_cases hlt : k < l.length
          · obtain ⟨c, hc⟩ : ∃ c, l[k]? = some c := ⟨_, List.getElem?_eq_getElem hlt⟩
            have hts := hide (take_snoc l k c hc)
            obtain ⟨hk1, hgl⟩ := bget l k c hc
            clear hc
            have hsl := (parseTo_lt _ _ hp.out).1
            by_cases c1 : 97 ≤ c.toNat
            · by_cases c2 : c.toNat ≤ 102
              · by_cases c3 : s < 2 ^ (c.toNat - 97)
                · have Hn' : Hid (parseTo (l.take (k + 1)) = some (s + 2 ^ (c.toNat - 97))) := by
                    rw [hts.out, parseTo_snoc, hp.out]; simp [stepSet, c1, c2, c3, Hid]
                  have Hor := hide (or_step s _ c3 (by omega))
                  by_cases k0 : 0 < k
                  · obtain ⟨d, hd1⟩ : ∃ d, l[k - 1]? = some d := ⟨_, List.getElem?_eq_getElem (by omega)⟩
                    have htk := take_snoc l (k - 1) d hd1
                    rw [show k - 1 + 1 = k from by omega] at htk
                    obtain ⟨d1, d2, d3, d4⟩ := parseTo_last (l.take (k - 1)) d s (by rw [← htk]; exact hp.out)
                    clear htk
                    obtain ⟨hk2, hgd⟩ := bget l (k - 1) d hd1
                    clear hd1
                    have hcd : d.toNat < c.toNat := by
                      rcases Nat.lt_or_ge d.toNat c.toNat with h | h
                      · exact h
                      · have := Nat.pow_le_pow_right (n := 2) (by omega) (show c.toNat - 97 ≤ d.toNat - 97 by omega)
                        omega
                    clear d3 d4
                    go_wp2
                    go_quiet (fail)
                    go_wp2
                    go_roundw
                    case rel =>
                      refine ⟨_, s + 2 ^ (c.toNat - 97), _, ?_, ?_, ?_, Hn', rfl⟩
                      · omega
                      · go_num
                      · rw [Hor.out]
                    case measure => simp [intOf]; omega
                  · obtain rfl : k = 0 := by omega
                    go_wp2
                    go_quiet (fail)
                    go_wp2
                    go_roundw
                    case rel =>
                      refine ⟨_, s + 2 ^ (c.toNat - 97), _, ?_, ?_, ?_, Hn', rfl⟩
                      · omega
                      · go_num
                      · rw [Hor.out]
                    case measure => simp [intOf]; omega
                · have H := hide (parseSet_none l (parseTo_take_none l (k + 1) (by rw [hts.out, parseTo_snoc, hp.out]; simp [stepSet, c3])) Hd.out)
                  have k0 : 0 < k := by
                    rcases Nat.eq_zero_or_pos k with h | h
                    · subst h
                      have := hp.out
                      rw [List.take_zero] at this
                      cases this
                      exact absurd (Nat.pow_pos (by omega)) c3
                    · exact h
                  obtain ⟨d, hd1⟩ : ∃ d, l[k - 1]? = some d := ⟨_, List.getElem?_eq_getElem (by omega)⟩
                  have htk := take_snoc l (k - 1) d hd1
                  rw [show k - 1 + 1 = k from by omega] at htk
                  obtain ⟨d1, d2, d3, d4⟩ := parseTo_last (l.take (k - 1)) d s (by rw [← htk]; exact hp.out)
                  clear htk
                  obtain ⟨hk2, hgd⟩ := bget l (k - 1) d hd1
                  clear hd1
                  have hcd : c.toNat ≤ d.toNat := by
                    rcases Nat.lt_or_ge d.toNat c.toNat with h | h
                    · have := Nat.pow_le_pow_right (n := 2) (by omega) (show d.toNat - 97 + 1 ≤ c.toNat - 97 by omega)
                      omega
                    · exact h
                  clear d3 d4 c3
                  go_wp2
                  go_quiet (fail)
                  go_wp2
                  go_ret2
                  exact ⟨PSet_mk H.out rfl, below_drewN (below_drewN (Below.refl _ _) _) _⟩
              · have H := hide (parseSet_none l (parseTo_take_none l (k + 1) (by rw [hts.out, parseTo_snoc, hp.out]; simp [stepSet, c2])) Hd.out)
                go_wp2
                go_ret2
                exact ⟨PSet_mk H.out rfl, below_drewN (Below.refl _ _) _⟩
            · have H := hide (parseSet_none l (parseTo_take_none l (k + 1) (by rw [hts.out, parseTo_snoc, hp.out]; simp [stepSet, c1])) Hd.out)
              go_wp2
              go_ret2
              exact ⟨PSet_mk H.out rfl, below_drewN (Below.refl _ _) _⟩
          · have hkl : k = l.length := by omega
            have H := hide (parseSet_some l s (by have := hp.out; rwa [hkl, List.take_length] at this) Hd.out)
            have Hb : Hid ((!l.isEmpty) = true) := by
              have := Hn.out
              cases l <;> simp_all [Hid]
            clear hkl
            go_wp2
            go_ret2
            refine ⟨PSet_mk (b := true) (by rw [H.out, Hb.out]) rfl, below_drewN (Below.refl _ _) _⟩

theorem shr_zero (s j : Nat) (h : s < 2 ^ j) : (((s : Int) / 2 ^ j) != 0) = false := by
  have e : ((s : Int) / 2 ^ j) = ((s / 2 ^ j : Nat) : Int) := by simp
  rw [e, Nat.div_eq_of_lt h]
  rfl
theorem shr_pos (s j : Nat) (h : ¬ s < 2 ^ j) : (((s : Int) / 2 ^ j) != 0) = true := by
  have e : ((s : Int) / 2 ^ j) = ((s / 2 ^ j : Nat) : Int) := by simp
  have : 0 < s / 2 ^ j := Nat.div_pos (by omega) (Nat.pow_pos (by omega))
  rw [e]
  simp
  omega
theorem add_step (s j : Nat) (hs : s < 64) (hj : j ≤ 5) : wrap64 ((s : Int) + wrap64 (2 ^ j)) = ((s + 2 ^ j : Nat) : Int) := by
  have hp : 2 ^ j ≤ 32 := Nat.pow_le_pow_right (n := 2) (by omega) hj
  have e : ((2 : Int) ^ j) = ((2 ^ j : Nat) : Int) := by simp
  rw [e]
  generalize 2 ^ j = q at hp
  rw [IntWalk.wrap64_in (q : Int) (by omega), IntWalk.wrap64_in _ (by omega)]
  omega

theorem parseSetS (l : List UInt8) (w : World) (hs : l.length ≤ 9223372036854775807) :
    Calls Try.prog 81 #[.string ⟨l.toArray⟩] w fun e w' => PSet l e ∧ Below w.heap.size w w' := by
  by_cases hd : l = [45]
  · subst hd
    go_enter Try.func81, Try.ntmps81
    go_wp2
    refine wp_loop_rounds 1 ?_
    rw [rounds_succ]
    go_wp2
    go_ret2
    exact ⟨PSet_mk parseSet_dash rfl, Below.refl _ _⟩
  · have hq : (l == [45]) = false := by simpa using hd
    have Hd := hide hd
    clear hd
    go_enter Try.func81, Try.ntmps81
    go_wp2
    go_loopw [4, 5] (fun t i wr => ∃ (k s n : Nat), k ≤ l.length ∧ i = .int .i64 k ∧ t = .int .i64 s ∧ Hid (parseTo (l.take k) = some s) ∧ wr = w.drewN n) (fun _ i _ => l.length - (intOf i).toNat)
    case atStart => exact ⟨0, 0, 0, by omega, rfl, rfl, rfl, rfl⟩
    case round =>
      obtain ⟨k, s, n, hk, rfl, rfl, hp, rfl⟩ := hrel
      by_cases hlt : k < l.length
      · obtain ⟨c, hc⟩ : ∃ c, l[k]? = some c := ⟨_, List.getElem?_eq_getElem hlt⟩
        have hts := hide (take_snoc l k c hc)
        obtain ⟨hk1, hgl⟩ := bget l k c hc
        clear hc
        have hsl := (parseTo_lt _ _ hp.out).1
        by_cases c1 : 97 ≤ c.toNat ∧ c.toNat ≤ 102
        · obtain ⟨j, hj⟩ : ∃ j, c.toNat = j + 97 := ⟨c.toNat - 97, by omega⟩
          have hj5 : j ≤ 5 := by omega
          have hin := inB_mk (x := (j : Int)) (lo := 0) (hi := 5) ⟨by omega, by omega⟩
          by_cases c3 : s < 2 ^ j
          · have Hn' : Hid (parseTo (l.take (k + 1)) = some (s + 2 ^ j)) := by
              rw [hts.out, parseTo_snoc, hp.out]
              have e : c.toNat - 97 = j := by omega
              simp [stepSet, c1, e, c3, Hid]
            have hz := shr_zero s j c3
            have Ha := hide (add_step s j hsl hj5)
            clear c1 c3
            go_wp2_with (go_at_call 120; refine (l1InS _ _ _ _).mono ?_; rintro e w' ⟨rfl, rfl⟩)
            go_roundw
            case rel => exact ⟨k + 1, s + 2 ^ j, _, by omega, by go_num, by rw [Ha.out], Hn', rfl⟩
            case measure => simp [intOf]; omega
          · have H := hide (parseSet_none l (parseTo_take_none l (k + 1) (by
              rw [hts.out, parseTo_snoc, hp.out]
              have e : c.toNat - 97 = j := by omega
              simp [stepSet, e, c3])) Hd.out)
            have hz := shr_pos s j c3
            clear c1 c3
            go_wp2_with (go_at_call 120; refine (l1InS _ _ _ _).mono ?_; rintro e w' ⟨rfl, rfl⟩)
            go_ret2
            exact ⟨PSet_mk H.out rfl, below_drewN (Below.refl _ _) _⟩
        · have H := hide (parseSet_none l (parseTo_take_none l (k + 1) (by
              rw [hts.out, parseTo_snoc, hp.out]
              have : ¬ (97 ≤ c.toNat ∧ c.toNat ≤ 102 ∧ s < 2 ^ (c.toNat - 97)) := fun h => c1 ⟨h.1, h.2.1⟩
              simp only [Option.bind_some, stepSet, if_neg this])) Hd.out)
          have hin := inB_no (x := (c.toNat : Int) - 97) (lo := 0) (hi := 5) (by omega)
          have hc5 : c.toNat < 256 := c.toNat_lt
          clear c1
          go_wp2_with (go_at_call 120; refine (l1InS _ _ _ _).mono ?_; rintro e w' ⟨rfl, rfl⟩)
          go_ret2
          exact ⟨PSet_mk H.out rfl, below_drewN (Below.refl _ _) _⟩
      · have hkl : k = l.length := by omega
        have H := hide (parseSet_some l s (by have := hp.out; rwa [hkl, List.take_length] at this) Hd.out)
        clear hkl
        by_cases hn : l = []
        · subst hn
          go_wp2
          go_ret2
          exact ⟨PSet_mk H.out rfl, below_drewN (Below.refl _ _) _⟩
        · have Hb : Hid ((!l.isEmpty) = true) := by cases l <;> simp_all [Hid]
          have he : l.isEmpty = false := by cases l <;> simp_all
          go_wp2
          go_ret2
          exact ⟨PSet_mk (b := true) (by rw [H.out, Hb.out]) rfl, below_drewN (Below.refl _ _) _⟩

theorem parseSetI2 (l : List UInt8) (w : World) (hs : l.length ≤ 9223372036854775807) : Calls Try.prog 80 #[.string ⟨l.toArray⟩] w fun e w' => RetNB w ((parseSet l).1 : Int) (parseSet l).2 e w' := parseSetI l w hs
theorem parseSetS2 (l : List UInt8) (w : World) (hs : l.length ≤ 9223372036854775807) : Calls Try.prog 81 #[.string ⟨l.toArray⟩] w fun e w' => RetNB w ((parseSet l).1 : Int) (parseSet l).2 e w' := parseSetS l w hs
end Go.Proofs.Ytmkacjpjcfffmaa
