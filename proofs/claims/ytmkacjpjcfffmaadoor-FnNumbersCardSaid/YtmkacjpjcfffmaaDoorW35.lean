/- Walks: ParseNumber and ParseInt in the reference; both of both. -/
import Derived.Test.YtmkacjpjcfffmaaDoorW34
import Derived.Test.YtmkacjpjcfffmaaDoorW31
namespace Go.Proofs.YtmkacjpjcfffmaaDoor
open Go.RowKit

theorem starts45 (l : List UInt8) : (∃ t, l = 45 :: t) ∨ (∀ t, l ≠ 45 :: t) := by
  cases l with
  | nil => exact .inr (fun t h => by cases h)
  | cons c t =>
    by_cases h : c = 45
    · exact .inl ⟨t, by rw [h]⟩
    · exact .inr (fun t h2 => h (List.cons.inj h2).1)
theorem pd_dash (most : Nat) (t : List UInt8) : pdOk most (45 :: t) = false := pd_bad (most := most) (c := 45) (by simp) (by decide)
theorem ng_bound {most : Nat} (hm : most ≤ 12) {t : List UInt8} (h : ngOk most t = true) : valOf t ≠ 0 ∧ valOf t < 1000000000000 := by
  unfold ngOk pdOk at h
  rw [Bool.and_eq_true, Bool.and_eq_true, Bool.and_eq_true] at h
  have h1 := of_decide_eq_true h.1.1.1
  exact ⟨of_decide_eq_true h.2, val_small h.1.2 (by omega) (Nat.le_refl _)⟩
theorem pd_bound {most : Nat} (hm : most ≤ 12) {t : List UInt8} (h : pdOk most t = true) : valOf t < 1000000000000 := by
  unfold pdOk at h
  rw [Bool.and_eq_true, Bool.and_eq_true] at h
  have h1 := of_decide_eq_true h.1.1
  exact val_small h.2 (by omega) (Nat.le_refl _)
theorem pi_pos {l : List UInt8} (h : ∀ t, l ≠ 45 :: t) : piOk l = pdOk 12 l ∧ piVal l = pdVal 12 l := by
  cases l with
  | nil => exact ⟨rfl, rfl⟩
  | cons c t =>
    have hc : c ≠ 45 := fun e => h t (by rw [e])
    constructor
    · unfold piOk
      split
      · rename_i e
        exact absurd (List.cons.inj e).1 hc
      · rfl
    · unfold piVal
      split
      · rename_i e
        exact absurd (List.cons.inj e).1 hc
      · rfl

theorem parseNumberS (l : List UInt8) (w : World) (hl : l.length ≤ 9223372036854775807) :
    Calls Tryd.prog 18 #[.string ⟨l.toArray⟩] w fun e w' => RetNB w (pdVal 6 l) (pdOk 6 l) e w' := by
  rcases starts45 l with ⟨t, rfl⟩ | h
  · have Hb := hide (pd_dash 6 t)
    have hp := l1ReadS_neg t 6 (by omega) w hl
    cases hok : ngOk 6 t
    · rw [hok, ngVal_no hok] at hp
      have Hp := hide hp
      clear hok hp
      go_enter Tryd.func18, Tryd.ntmps18
      go_wp2_with fail
      refine Calls.mono Hp.out ?_
      rintro e w' ⟨rfl, b1⟩
      have B1 := hide b1
      clear b1
      go_wp2
      go_ret2
      rw [pdVal_no Hb.out, Hb.out]
      exact ⟨rfl, B1.out⟩
    · rw [hok, ngVal_yes hok] at hp
      obtain ⟨hv, hv2⟩ := ng_bound (by omega) hok
      have hv3 : (0 : Int) < (valOf t : Int) := by omega
      have Hp := hide hp
      clear hok hp
      go_enter Tryd.func18, Tryd.ntmps18
      go_wp2_with fail
      refine Calls.mono Hp.out ?_
      rintro e w' ⟨rfl, b1⟩
      have B1 := hide b1
      clear b1
      go_wp2
      go_ret2
      rw [pdVal_no Hb.out, Hb.out]
      exact ⟨rfl, B1.out⟩
  · have hp := l1ReadS_pos l 6 (by omega) w hl h
    cases hok : pdOk 6 l
    · have Hb := hide hok
      rw [hok, pdVal_no hok] at hp
      have Hp := hide hp
      clear hok hp h
      go_enter Tryd.func18, Tryd.ntmps18
      go_wp2_with fail
      refine Calls.mono Hp.out ?_
      rintro e w' ⟨rfl, b1⟩
      have B1 := hide b1
      clear b1
      go_wp2
      go_ret2
      rw [pdVal_no Hb.out]
      exact ⟨rfl, B1.out⟩
    · have Hb := hide hok
      rw [hok, pdVal_yes hok] at hp
      have hv2 := pd_bound (by omega) hok
      have Hp := hide hp
      clear hok hp h
      go_enter Tryd.func18, Tryd.ntmps18
      go_wp2_with fail
      refine Calls.mono Hp.out ?_
      rintro e w' ⟨rfl, b1⟩
      have B1 := hide b1
      clear b1
      go_wp2
      go_ret2
      rw [pdVal_yes Hb.out]
      exact ⟨rfl, B1.out⟩

theorem parseNumberI2 (l : List UInt8) (w : World) (hl : l.length ≤ 9223372036854775807) :
    Calls Tryd.prog 17 #[.string ⟨l.toArray⟩] w fun e w' => RetNB w (pdVal 6 l) (pdOk 6 l) e w' :=
  (parseNumberI l w hl).mono fun _ _ ⟨h1, h2⟩ => ⟨h1, h2 ▸ Below.refl _ _⟩
theorem parseIntI2 (l : List UInt8) (w : World) (hl : l.length ≤ 9223372036854775807) :
    Calls Tryd.prog 15 #[.string ⟨l.toArray⟩] w fun e w' => RetNB w (piVal l) (piOk l) e w' := by
  rcases starts45 l with ⟨t, rfl⟩ | h
  · exact (parseIntI_neg t w hl).mono fun _ _ ⟨h1, h2⟩ => ⟨h1, h2 ▸ Below.refl _ _⟩
  · rw [(pi_pos h).1, (pi_pos h).2]
    exact (parseIntI_pos l w hl h).mono fun _ _ ⟨h1, h2⟩ => ⟨h1, h2 ▸ Below.refl _ _⟩
end Go.Proofs.YtmkacjpjcfffmaaDoor
