/- Texts of one kind, laid together (5 of them). -/
import Derived.Lib.Strings
import Derived.Test.YtmkacjpjcfffmaaP1
import Derived.Test.YtmkacjpjcfffmaaP2
import Derived.Test.YtmkacjpjcfffmaaP3
namespace Go.Proofs.Ytmkacjpjcfffmaa
/- Walks: plainDigits, ParseNumber, ParseInt in the program. -/
section
open Go.RowKit

def pdOk (most : Nat) (l : List UInt8) : Bool := decide (1 ≤ l.length ∧ l.length ≤ most) && plainL l && l.all isDig
def pdVal (most : Nat) (l : List UInt8) : Int := if pdOk most l then (valOf l : Int) else 0
theorem pd_len {most : Nat} {l : List UInt8} (h : ¬ (1 ≤ l.length ∧ l.length ≤ most)) : pdOk most l = false := by unfold pdOk; rw [decide_eq_false h]; rfl
theorem pd_plain {most : Nat} {l : List UInt8} (h : plainL l = false) : pdOk most l = false := by unfold pdOk; rw [h]; simp
theorem pd_bad {most : Nat} {l : List UInt8} {c : UInt8} (hc : c ∈ l) (h : isDig c = false) : pdOk most l = false := by
  unfold pdOk
  rw [List.all_eq_false.2 ⟨c, hc, by simp [h]⟩]
  simp
theorem pd_mk {most : Nat} {l : List UInt8} (h : 1 ≤ l.length ∧ l.length ≤ most) (hp : plainL l = true) (ha : l.all isDig = true) : pdOk most l = true := by
  unfold pdOk
  rw [decide_eq_true h, hp, ha]
  rfl
theorem pdVal_no {most : Nat} {l : List UInt8} (h : pdOk most l = false) : pdVal most l = 0 := by simp [pdVal, h]
theorem pdVal_yes {most : Nat} {l : List UInt8} (h : pdOk most l = true) : pdVal most l = (valOf l : Int) := by simp [pdVal, h]
theorem val_small {l : List UInt8} {k : Nat} (h : l.all isDig = true) (hl : l.length ≤ k) (hk : k ≤ 12) : valOf l < 1000000000000 := by
  have h1 := valOf_bound l h
  have h2 := Nat.pow_le_pow_right (n := 10) (by omega) (show l.length ≤ 12 by omega)
  omega

theorem plainDigitsI (l : List UInt8) (most : Nat) (hm : most ≤ 12) (w : World) (hl : l.length ≤ 9223372036854775807) :
    Calls Try.prog 102 #[.string ⟨l.toArray⟩, .int .i64 (most : Int)] w fun e w' => e = .returned (.tuple #[.int .i64 (pdVal most l), .bool (pdOk most l)]) ∧ w = w' := by
  by_cases hlen : 1 ≤ l.length ∧ l.length ≤ most
  · have Hlen := hide hlen
    obtain ⟨h1, h2⟩ := hlen
    have hne0 : ((l.length : Int) == 0) = false := by rw [beq_eq_false_iff_ne]; omega
    obtain ⟨c0, hc0⟩ : ∃ c, l[0]? = some c := ⟨_, List.getElem?_eq_getElem (by omega)⟩
    obtain ⟨hk0, hg0⟩ := bget l 0 c0 hc0
    have Hc0 := hide hc0
    clear hc0
    cases hpl : plainL l
    · have H := hide (pd_plain (most := most) hpl)
      have hgt : 1 < l.length := by
        unfold plainL at hpl
        rw [Bool.or_eq_false_iff] at hpl
        have := of_decide_eq_false hpl.1
        omega
      have hc48 : c0.toNat = 48 := by
        unfold plainL at hpl
        rw [Bool.or_eq_false_iff] at hpl
        have h3 := of_decide_eq_false hpl.2
        rw [List.head?_eq_getElem?, Hc0.out] at h3
        have : c0 = 48 := by simpa using h3
        rw [this]
        rfl
      have hb48 : ((c0.toNat : Int) == 48) = true := by rw [beq_iff_eq]; omega
      clear hpl
      go_enter Try.func102, Try.ntmps102
      go_wp2
      go_ret2
      rw [pdVal_no H.out, H.out]
      exact ⟨rfl, rfl⟩
    · have Hpl := hide hpl
      by_cases hgt : 1 < l.length
      · have hb48 : ((c0.toNat : Int) == 48) = false := by
          unfold plainL at hpl
          rw [Bool.or_eq_true] at hpl
          rcases hpl with h | h
          · have := of_decide_eq_true h
            omega
          · have h3 := of_decide_eq_true h
            rw [List.head?_eq_getElem?, Hc0.out] at h3
            have h4 : c0 ≠ 48 := by simpa using h3
            have h5 : c0.toNat ≠ 48 := fun e => h4 (by
              have : UInt8.ofNat c0.toNat = UInt8.ofNat 48 := by rw [e]
              simpa using this)
            rw [beq_eq_false_iff_ne]; omega
        clear hpl
        go_enter Try.func102, Try.ntmps102
        go_wp2
        go_loop [6, 7] (fun a i => ∃ k : Nat, k ≤ l.length ∧ i = .int .i64 k ∧ (l.take k).all isDig = true ∧ a = .int .i64 (valOf (l.take k) : Int)) (fun _ i => l.length - (intOf i).toNat)
        case atStart => exact ⟨0, by omega, rfl, rfl, rfl⟩
        case round =>
          obtain ⟨k, hk, rfl, hdig, rfl⟩ := hrel
          by_cases hlt : k < l.length
          · obtain ⟨c, hc⟩ : ∃ c, l[k]? = some c := ⟨_, List.getElem?_eq_getElem hlt⟩
            have Hts := hide (take_snoc l k c hc)
            have Hmem := hide (List.mem_of_getElem? hc)
            obtain ⟨hk1, hgl⟩ := bget l k c hc
            have hsm := val_small hdig (show (l.take k).length ≤ 12 by rw [List.length_take]; omega) (Nat.le_refl _)
            have Hdig := hide hdig
            clear hc hdig
            by_cases c1 : 48 ≤ c.toNat
            · by_cases c2 : c.toNat ≤ 57
              · have hd : isDig c = true := decide_eq_true ⟨c1, c2⟩
                have Hn : Hid ((l.take (k + 1)).all isDig = true) := by show _ = _; rw [Hts.out, List.all_append, Hdig.out]; simp [hd]
                have Hv : Hid ((valOf (l.take (k + 1)) : Int) = (valOf (l.take k) : Int) * 10 + ((c.toNat : Int) - 48)) := by show _ = _; rw [Hts.out, valOf_snoc]; omega
                clear hd
                go_wp2
                go_round
                case rel => exact ⟨k + 1, by omega, by go_num, Hn.out, by rw [Hv.out]⟩
                case measure => simp [intOf]; omega
              · have H := hide (pd_bad (most := most) Hmem.out (decide_eq_false (by omega) : isDig c = false))
                have c3 : 57 < c.toNat := by omega
                clear c2
                go_wp2
                go_ret2
                rw [pdVal_no H.out, H.out]
                exact ⟨rfl, rfl⟩
            · have H := hide (pd_bad (most := most) Hmem.out (decide_eq_false (by omega) : isDig c = false))
              have c3 : c.toNat < 48 := by omega
              clear c1
              go_wp2
              go_ret2
              rw [pdVal_no H.out, H.out]
              exact ⟨rfl, rfl⟩
          · have hk2 : l.length ≤ k := by omega
            have Ht := hide (take_all l k hk2)
            have H : Hid (pdOk most l = true) := pd_mk Hlen.out Hpl.out (by have := hdig; rwa [Ht.out] at this)
            clear hdig
            go_wp2
            go_ret2
            rw [pdVal_yes H.out, H.out, Ht.out]
            exact ⟨rfl, rfl⟩

      · have hle : l.length ≤ 1 := by omega
        clear hpl hgt
        go_enter Try.func102, Try.ntmps102
        go_wp2
        go_loop [6, 7] (fun a i => ∃ k : Nat, k ≤ l.length ∧ i = .int .i64 k ∧ (l.take k).all isDig = true ∧ a = .int .i64 (valOf (l.take k) : Int)) (fun _ i => l.length - (intOf i).toNat)
        case atStart => exact ⟨0, by omega, rfl, rfl, rfl⟩
        case round =>
          obtain ⟨k, hk, rfl, hdig, rfl⟩ := hrel
          by_cases hlt : k < l.length
          · obtain ⟨c, hc⟩ : ∃ c, l[k]? = some c := ⟨_, List.getElem?_eq_getElem hlt⟩
            have Hts := hide (take_snoc l k c hc)
            have Hmem := hide (List.mem_of_getElem? hc)
            obtain ⟨hk1, hgl⟩ := bget l k c hc
            have hsm := val_small hdig (show (l.take k).length ≤ 12 by rw [List.length_take]; omega) (Nat.le_refl _)
            have Hdig := hide hdig
            clear hc hdig
            by_cases c1 : 48 ≤ c.toNat
            · by_cases c2 : c.toNat ≤ 57
              · have hd : isDig c = true := decide_eq_true ⟨c1, c2⟩
                have Hn : Hid ((l.take (k + 1)).all isDig = true) := by show _ = _; rw [Hts.out, List.all_append, Hdig.out]; simp [hd]
                have Hv : Hid ((valOf (l.take (k + 1)) : Int) = (valOf (l.take k) : Int) * 10 + ((c.toNat : Int) - 48)) := by show _ = _; rw [Hts.out, valOf_snoc]; omega
                clear hd
                go_wp2
                go_round
                case rel => exact ⟨k + 1, by omega, by go_num, Hn.out, by rw [Hv.out]⟩
                case measure => simp [intOf]; omega
              · have H := hide (pd_bad (most := most) Hmem.out (decide_eq_false (by omega) : isDig c = false))
                have c3 : 57 < c.toNat := by omega
                clear c2
                go_wp2
                go_ret2
                rw [pdVal_no H.out, H.out]
                exact ⟨rfl, rfl⟩
            · have H := hide (pd_bad (most := most) Hmem.out (decide_eq_false (by omega) : isDig c = false))
              have c3 : c.toNat < 48 := by omega
              clear c1
              go_wp2
              go_ret2
              rw [pdVal_no H.out, H.out]
              exact ⟨rfl, rfl⟩
          · have hk2 : l.length ≤ k := by omega
            have Ht := hide (take_all l k hk2)
            have H : Hid (pdOk most l = true) := pd_mk Hlen.out Hpl.out (by have := hdig; rwa [Ht.out] at this)
            clear hdig
            go_wp2
            go_ret2
            rw [pdVal_yes H.out, H.out, Ht.out]
            exact ⟨rfl, rfl⟩
  · have H := hide (pd_len hlen)
    rcases Nat.lt_or_ge l.length 1 with h | h
    · have h0 : l.length = 0 := by omega
      have hne0 : ((l.length : Int) == 0) = true := by rw [beq_iff_eq]; omega
      clear hlen h h0
      go_enter Try.func102, Try.ntmps102
      go_wp2
      go_ret2
      rw [pdVal_no H.out, H.out]
      exact ⟨rfl, rfl⟩
    · have hne0 : ((l.length : Int) == 0) = false := by rw [beq_eq_false_iff_ne]; omega
      have h3 : most < l.length := by omega
      clear hlen
      go_enter Try.func102, Try.ntmps102
      go_wp2
      go_ret2
      rw [pdVal_no H.out, H.out]
      exact ⟨rfl, rfl⟩
end

/- Walks: ParseInt in the program. -/
section
open Go.RowKit

def piOk (l : List UInt8) : Bool := match l with | 45 :: t => pdOk 12 t && decide (valOf t ≠ 0) | l => pdOk 12 l
def piVal (l : List UInt8) : Int := match l with | 45 :: t => if pdOk 12 t && decide (valOf t ≠ 0) then -(valOf t : Int) else 0 | l => pdVal 12 l
theorem cut_eq33 (l : List UInt8) (a b : Nat) : (⟨l.toArray⟩ : ByteArray).extract a b = ⟨((l.drop a).take (b - a)).toArray⟩ := by
  have := Lib.extract_eq (⟨l.toArray⟩ : ByteArray) a b
  simpa using this
theorem parseIntI_neg (t : List UInt8) (w : World) (hl : t.length + 1 ≤ 9223372036854775807) :
    Calls Try.prog 15 #[.string ⟨(45 :: t).toArray⟩] w fun e w' => e = .returned (.tuple #[.int .i64 (piVal (45 :: t)), .bool (piOk (45 :: t))]) ∧ w = w' := by
  have hlen : (45 :: t : List UInt8).length = t.length + 1 := rfl
  obtain ⟨hk0, hg0⟩ := bget (45 :: t) 0 45 rfl
  have hx : (⟨(45 :: t).toArray⟩ : ByteArray).extract 1 (t.length + 1) = ⟨t.toArray⟩ := by
    rw [cut_eq33]
    simp
  have hp := plainDigitsI t 12 (by omega) w (by omega)
  cases hok : pdOk 12 t
  · rw [hok] at hp
    have Hp := hide hp
    have Hok := hide hok
    clear hok hp
    go_enter Try.func15, Try.ntmps15
    go_wp2_with fail
    refine Calls.mono Hp.out ?_
    rintro e w' ⟨rfl, rfl⟩
    go_wp2
    go_ret2
    exact ⟨by simp [piVal, piOk, Hok.out], rfl⟩
  · have hv := pdVal_yes hok
    rw [hok, hv] at hp
    have hb : valOf t < 1000000000000 := by
      unfold pdOk at hok
      rw [Bool.and_eq_true, Bool.and_eq_true] at hok
      have h1 := of_decide_eq_true hok.1.1
      exact val_small hok.2 h1.2 (Nat.le_refl _)
    have Hp := hide hp
    have Hok := hide hok
    clear hok hp hv
    by_cases h0 : valOf t = 0
    · have hz : ((valOf t : Int) == 0) = true := by rw [beq_iff_eq]; omega
      have H0 := hide h0
      clear h0
      go_enter Try.func15, Try.ntmps15
      go_wp2_with fail
      refine Calls.mono Hp.out ?_
      rintro e w' ⟨rfl, rfl⟩
      go_wp2
      go_ret2
      exact ⟨by simp [piVal, piOk, Hok.out, H0.out], rfl⟩
    · have hz : ((valOf t : Int) == 0) = false := by rw [beq_eq_false_iff_ne]; omega
      have H0 := hide h0
      clear h0
      go_enter Try.func15, Try.ntmps15
      go_wp2_with fail
      refine Calls.mono Hp.out ?_
      rintro e w' ⟨rfl, rfl⟩
      go_wp2
      go_ret2
      exact ⟨by have h := H0.out; simp [piVal, piOk, Hok.out, h], rfl⟩
theorem parseIntI_pos (l : List UInt8) (w : World) (hl : l.length ≤ 9223372036854775807) (h : ∀ t, l ≠ 45 :: t) :
    Calls Try.prog 15 #[.string ⟨l.toArray⟩] w fun e w' => e = .returned (.tuple #[.int .i64 (pdVal 12 l), .bool (pdOk 12 l)]) ∧ w = w' := by
  cases l with
  | nil =>
    clear h
    have hp := plainDigitsI [] 12 (by omega) w hl
    cases hok : pdOk 12 []
    · have Hv := hide (pdVal_no hok)
      rw [hok, Hv.out] at hp
      have Hp := hide hp
      clear hok hp
      go_enter Try.func15, Try.ntmps15
      go_wp2_with fail
      refine Calls.mono Hp.out ?_
      rintro e w' ⟨rfl, rfl⟩
      go_wp2
      go_ret2
      rw [Hv.out]
      exact ⟨rfl, rfl⟩
    · rw [hok] at hp
      have Hp := hide hp
      clear hok hp
      go_enter Try.func15, Try.ntmps15
      go_wp2_with fail
      refine Calls.mono Hp.out ?_
      rintro e w' ⟨rfl, rfl⟩
      go_wp2
      go_ret2
      exact ⟨rfl, rfl⟩
  | cons c t =>
    have hlen : (c :: t : List UInt8).length = t.length + 1 := rfl
    obtain ⟨hk0, hg0⟩ := bget (c :: t) 0 c rfl
    have hc : ((c.toNat : Int) == 45) = false := by
      rw [beq_eq_false_iff_ne]
      intro e
      have h5 : c.toNat = 45 := by omega
      have : UInt8.ofNat c.toNat = UInt8.ofNat 45 := by rw [h5]
      exact h t (by rw [show c = 45 by simpa using this])
    clear h
    have hp := plainDigitsI (c :: t) 12 (by omega) w hl
    cases hok : pdOk 12 (c :: t)
    · have Hv := hide (pdVal_no hok)
      rw [hok, Hv.out] at hp
      have Hp := hide hp
      clear hok hp
      go_enter Try.func15, Try.ntmps15
      go_wp2_with fail
      refine Calls.mono Hp.out ?_
      rintro e w' ⟨rfl, rfl⟩
      go_wp2
      go_ret2
      rw [Hv.out]
      exact ⟨rfl, rfl⟩
    · rw [hok] at hp
      have Hp := hide hp
      clear hok hp
      go_enter Try.func15, Try.ntmps15
      go_wp2_with fail
      refine Calls.mono Hp.out ?_
      rintro e w' ⟨rfl, rfl⟩
      go_wp2
      go_ret2
      exact ⟨rfl, rfl⟩
end

/- Plain laws: what a complex's text is read as. No program is named here. -/
section
theorem spTo_none (b : UInt8) (l : List UInt8) : ∀ k, (∀ i, i < k → l[i]? ≠ some b) → spTo b l k = ([], 0)
  | 0, _ => rfl
  | k + 1, h => by rw [spTo_miss b l k (h k (by omega)), spTo_none b l k (fun i hi => h i (by omega))]
theorem not_at {b : UInt8} {p : List UInt8} (h : b ∉ p) (i : Nat) : p[i]? ≠ some b := fun e => h (List.mem_of_getElem? e)
theorem splitB_none {b : UInt8} {l : List UInt8} (h : b ∉ l) : splitB b l = [l] := by
  unfold splitB
  rw [spTo_none b l l.length (fun i _ => not_at h i)]
  rfl
theorem spTo_cons {b : UInt8} {p q : List UInt8} (h : b ∉ p) : ∀ k, spTo b (p ++ b :: q) (p.length + 1 + k) = (p :: (spTo b q k).1, p.length + 1 + (spTo b q k).2)
  | 0 => by
    have h1 : (p ++ b :: q)[p.length]? = some b := by simp
    have h2 : spTo b (p ++ b :: q) p.length = ([], 0) := spTo_none _ _ _ (fun i hi => by
      rw [List.getElem?_append_left hi]
      exact not_at h i)
    rw [Nat.add_zero, spTo_hit _ _ _ h1, h2]
    simp [spTo]
  | k + 1 => by
    have ih := spTo_cons (q := q) h k
    have h1 : (p ++ b :: q)[p.length + 1 + k]? = q[k]? := by
      rw [List.getElem?_append_right (by omega), show p.length + 1 + k - p.length = k + 1 by omega]
      rfl
    by_cases hk : q[k]? = some b
    · rw [show p.length + 1 + (k + 1) = (p.length + 1 + k) + 1 by omega, spTo_hit _ _ _ (h1.trans hk), ih, spTo_hit _ _ _ hk]
      have hd : (p ++ b :: q).drop (p.length + 1 + (spTo b q k).2) = q.drop (spTo b q k).2 := by
        rw [List.drop_append, List.drop_eq_nil_of_le (by omega), show p.length + 1 + (spTo b q k).2 - p.length = (spTo b q k).2 + 1 by omega]
        rfl
      simp only [hd, List.cons_append, Prod.mk.injEq, List.cons.injEq, true_and]
      refine ⟨by rw [show p.length + 1 + k - (p.length + 1 + (spTo b q k).2) = k - (spTo b q k).2 by omega], by omega⟩
    · rw [show p.length + 1 + (k + 1) = (p.length + 1 + k) + 1 by omega, spTo_miss _ _ _ (fun e => hk (h1.symm.trans e)), ih, spTo_miss _ _ _ hk]
theorem splitB_cons {b : UInt8} {p q : List UInt8} (h : b ∉ p) : splitB b (p ++ b :: q) = p :: splitB b q := by
  unfold splitB
  have e : (p ++ b :: q).length = p.length + 1 + q.length := by simp; omega
  rw [e, spTo_cons h]
  have hd : (p ++ b :: q).drop (p.length + 1 + (spTo b q q.length).2) = q.drop (spTo b q q.length).2 := by
    rw [List.drop_append, List.drop_eq_nil_of_le (by omega), show p.length + 1 + (spTo b q q.length).2 - p.length = (spTo b q q.length).2 + 1 by omega]
    rfl
  simp only [hd, List.cons_append]
theorem spTo_part (b : UInt8) (l : List UInt8) : ∀ k, ∀ p ∈ (spTo b l k).1, p.length ≤ l.length
  | 0 => by simp [spTo]
  | k + 1 => by
    intro p hp
    by_cases h : l[k]? = some b
    · rw [spTo_hit _ _ _ h] at hp
      rcases List.mem_append.1 hp with hp | hp
      · exact spTo_part b l k p hp
      · have e : p = (l.drop (spTo b l k).2).take (k - (spTo b l k).2) := by simpa using hp
        rw [e, List.length_take, List.length_drop]
        omega
    · rw [spTo_miss _ _ _ h] at hp
      exact spTo_part b l k p hp
theorem splitB_part {b : UInt8} {l p : List UInt8} (h : p ∈ splitB b l) : p.length ≤ l.length := by
  unfold splitB at h
  rcases List.mem_append.1 h with h | h
  · exact spTo_part b l _ p h
  · have e : p = l.drop (spTo b l l.length).2 := by simpa using h
    rw [e, List.length_drop]
    omega
theorem splitB_ne (b : UInt8) (l : List UInt8) : 1 ≤ (splitB b l).length := by simp [splitB]
/-- A byte of the whole is in a part. -/
theorem first_at {b : UInt8} {l : List UInt8} (h : b ∈ l) : ∃ p q, l = p ++ b :: q ∧ b ∉ p := by
  induction l with
  | nil => cases h
  | cons a l ih =>
    by_cases e : a = b
    · subst e
      exact ⟨[], l, rfl, by simp⟩
    · have h1 : b ∈ l := by
        rcases List.mem_cons.1 h with h | h
        · exact absurd h.symm e
        · exact h
      obtain ⟨p, q, rfl, hp⟩ := ih h1
      refine ⟨a :: p, q, rfl, ?_⟩
      intro h2
      rcases List.mem_cons.1 h2 with h2 | h2
      · exact e h2.symm
      · exact hp h2
theorem in_part {b c : UInt8} (hne : c ≠ b) : ∀ (n : Nat) (l : List UInt8), l.length ≤ n → c ∈ l → ∃ p ∈ splitB b l, c ∈ p
  | 0, l, hn, h => by
    have := List.length_pos_of_mem h
    omega
  | n + 1, l, hn, h => by
    by_cases hb : b ∈ l
    · obtain ⟨p, q, rfl, hp⟩ := first_at hb
      rw [splitB_cons hp]
      rcases List.mem_append.1 h with h | h
      · exact ⟨p, by simp, h⟩
      · rcases List.mem_cons.1 h with h | h
        · exact absurd h hne
        · have hl : q.length ≤ n := by simp at hn; omega
          obtain ⟨r, hr, hc⟩ := in_part hne n q hl h
          exact ⟨r, by simp [hr], hc⟩
    · rw [splitB_none hb]
      exact ⟨l, by simp, h⟩
theorem parseTo_mem : ∀ (l : List UInt8) (s : Nat), parseTo l = some s → ∀ c ∈ l, 97 ≤ c.toNat ∧ c.toNat ≤ 102 := by
  intro l
  refine snoc_ind (P := fun l => ∀ s, parseTo l = some s → ∀ c ∈ l, 97 ≤ c.toNat ∧ c.toNat ≤ 102) ?_ ?_ l
  · intro s _ c hc; cases hc
  · intro l c ih s h d hd
    rcases List.mem_append.1 hd with hd | hd
    · rw [parseTo_snoc] at h
      obtain ⟨s0, h0, _⟩ := Option.bind_eq_some_iff.1 h
      exact ih s0 h0 d hd
    · have : d = c := by simpa using hd
      subst this
      obtain ⟨a, b, _⟩ := parseTo_last l d s h
      exact ⟨a, b⟩
theorem parseSet_colon {l : List UInt8} (h : (58 : UInt8) ∈ l) : (parseSet l).2 = false := by
  unfold parseSet
  split
  · rename_i e
    rw [e] at h
    revert h
    decide
  · split
    · rename_i s hs
      have h1 := (parseTo_mem l s hs 58 h).1
      exact absurd h1 (by decide)
    · rfl

/-- What is read behind the colon. -/
def setsOk (r : List UInt8) : Bool := r.isEmpty || (splitB 44 r).all (fun p => (parseSet p).2)
def setsXs (r : List UInt8) : List Int := if r.isEmpty then [] else (splitB 44 r).map (fun p => ((parseSet p).1 : Int))
theorem setsOk_colon {r : List UInt8} (h : (58 : UInt8) ∈ r) : setsOk r = false := by
  unfold setsOk
  have h1 : r.isEmpty = false := by
    cases r with
    | nil => cases h
    | cons _ _ => rfl
  rw [h1, Bool.false_or]
  obtain ⟨p, hp, hc⟩ := in_part (b := 44) (c := 58) (by decide) r.length r (Nat.le_refl _) h
  exact List.all_eq_false.2 ⟨p, hp, by rw [parseSet_colon hc]; simp⟩
/-- The head of a text: a digit of one to six and a colon. -/
def headB (l : List UInt8) : Bool := match l with
  | c :: d :: _ => decide (49 ≤ c.toNat ∧ c.toNat ≤ 54 ∧ d = 58)
  | _ => false
def headN (l : List UInt8) : Int := match l with
  | c :: _ => (c.toNat : Int) - 48
  | _ => 0
def pcxOk (l : List UInt8) : Bool := headB l && setsOk (l.drop 2) && isCx (headN l) (setsXs (l.drop 2))
def pcxN (l : List UInt8) : Int := if pcxOk l then headN l else 0
def pcxXs (l : List UInt8) : List Int := if pcxOk l then setsXs (l.drop 2) else []
/-- The same as the reference reads it. -/
def pcs (l : List UInt8) : List (List UInt8) := splitB 58 l
def pcsOk (l : List UInt8) : Bool := decide ((pcs l).length = 2) && piOk ((pcs l).getD 0 []) && setsOk ((pcs l).getD 1 []) && isCx (piVal ((pcs l).getD 0 [])) (setsXs ((pcs l).getD 1 []))
theorem pi_digit {n : Int} {p : List UInt8} (h : piOk p = true) (hn : piVal p = n) (h1 : 1 ≤ n ∧ n ≤ 6) : ∃ c, p = [c] ∧ (c.toNat : Int) = n + 48 := by
  have h45 : ∀ t, p ≠ 45 :: t := by
    rintro t rfl
    unfold piVal at hn
    simp only at hn
    split at hn <;> omega
  have hpd : piOk p = pdOk 12 p ∧ piVal p = pdVal 12 p := by
    cases p with
    | nil => exact ⟨rfl, rfl⟩
    | cons c t =>
      have hc : c ≠ 45 := fun e => h45 t (by rw [e])
      constructor
      · unfold piOk
        split
        · rename_i e
          exact absurd (List.cons.inj e).1 hc
        · rfl
      · unfold piVal
        split
        · rename_i e
          exact absurd (List.cons.inj e).1 hc
        · rfl
  rw [hpd.1] at h
  rw [hpd.2, pdVal_yes h] at hn
  unfold pdOk at h
  rw [Bool.and_eq_true, Bool.and_eq_true] at h
  obtain ⟨⟨ha, hb⟩, hc⟩ := h
  have hl := of_decide_eq_true ha
  have hf := (fmtN_valOf hc (by omega)).2 hb
  have hv : valOf p = n.toNat := by omega
  rw [hv] at hf
  have e : ∀ m : Nat, 1 ≤ m → m ≤ 6 → fmtN m = [UInt8.ofNat (m + 48)] ∧ (UInt8.ofNat (m + 48)).toNat = m + 48 := by
    intro m h1 h2
    rcases (by omega : m = 1 ∨ m = 2 ∨ m = 3 ∨ m = 4 ∨ m = 5 ∨ m = 6) with rfl | rfl | rfl | rfl | rfl | rfl <;> decide +kernel
  obtain ⟨e1, e2⟩ := e n.toNat (by omega) (by omega)
  rw [e1] at hf
  exact ⟨_, hf.symm, by rw [e2]; omega⟩
theorem digit_pi {c : UInt8} (h : 49 ≤ c.toNat ∧ c.toNat ≤ 54) : piOk [c] = true ∧ piVal [c] = (c.toNat : Int) - 48 := by
  have hc : c = UInt8.ofNat c.toNat := by simp
  obtain ⟨m, hm⟩ : ∃ m, m = c.toNat := ⟨_, rfl⟩
  rw [← hm] at h hc ⊢
  rw [hc]
  rcases (by omega : m = 49 ∨ m = 50 ∨ m = 51 ∨ m = 52 ∨ m = 53 ∨ m = 54) with rfl | rfl | rfl | rfl | rfl | rfl <;> decide +kernel
theorem pcs_two {l : List UInt8} (h : (pcs l).length = 2) : ∃ p r, l = p ++ 58 :: r ∧ 58 ∉ p ∧ 58 ∉ r ∧ pcs l = [p, r] := by
  unfold pcs at *
  by_cases hm : (58 : UInt8) ∈ l
  · obtain ⟨p, r, rfl, hp⟩ := first_at hm
    rw [splitB_cons hp] at h ⊢
    by_cases hr : (58 : UInt8) ∈ r
    · obtain ⟨p2, r2, rfl, hp2⟩ := first_at hr
      rw [splitB_cons hp2] at h
      have h2 := splitB_ne 58 r2
      rw [List.length_cons, List.length_cons] at h
      omega
    · rw [splitB_none hr]
      exact ⟨p, r, rfl, hp, hr, rfl⟩
  · rw [splitB_none hm] at h
    simp at h
theorem pcs_eq (l : List UInt8) : pcsOk l = pcxOk l ∧ (pcxOk l = true → piVal ((pcs l).getD 0 []) = headN l ∧ setsXs ((pcs l).getD 1 []) = setsXs (l.drop 2)) := by
  by_cases h : pcxOk l = true
  · have h' := h
    unfold pcxOk at h'
    rw [Bool.and_eq_true, Bool.and_eq_true] at h'
    obtain ⟨⟨ha, hb⟩, hc⟩ := h'
    match l, ha with
    | c :: d :: r, ha =>
      have ha' : 49 ≤ c.toNat ∧ c.toNat ≤ 54 ∧ d = 58 := of_decide_eq_true ha
      obtain ⟨h1, h2, rfl⟩ := ha'
      have hr : (58 : UInt8) ∉ r := by
        intro hm
        have := setsOk_colon hm
        rw [show (c :: 58 :: r).drop 2 = r from rfl, this] at hb
        cases hb
      have hcn : (58 : UInt8) ∉ [c] := by
        intro hm
        have : (58 : UInt8) = c := by simpa using hm
        rw [← this] at h2
        revert h2
        decide
      have hs : pcs (c :: 58 :: r) = [[c], r] := by
        unfold pcs
        have := splitB_cons (b := 58) (p := [c]) (q := r) hcn
        rw [splitB_none hr] at this
        exact this
      obtain ⟨e1, e2⟩ := digit_pi ⟨h1, h2⟩
      have hcx : isCx ((c.toNat : Int) - 48) (setsXs r) = true := hc
      have hb' : setsOk r = true := hb
      rw [h]
      unfold pcsOk
      rw [hs]
      refine ⟨?_, fun _ => ⟨e2, rfl⟩⟩
      show (decide (([[c], r] : List (List UInt8)).length = 2) && piOk [c] && setsOk r && isCx (piVal [c]) (setsXs r)) = true
      rw [e1, e2, hb', hcx]
      rfl
  · have hf : pcxOk l = false := by simpa using h
    refine ⟨?_, fun e => absurd e h⟩
    rw [hf]
    cases hp : pcsOk l
    · rfl
    · exfalso
      unfold pcsOk at hp
      rw [Bool.and_eq_true, Bool.and_eq_true, Bool.and_eq_true] at hp
      obtain ⟨⟨⟨ha, hb⟩, hc⟩, hd⟩ := hp
      obtain ⟨p, r, rfl, hp, hr, hs⟩ := pcs_two (of_decide_eq_true ha)
      rw [hs] at hb hc hd
      have hb' : piOk p = true := hb
      have hc' : setsOk r = true := hc
      have hd' : isCx (piVal p) (setsXs r) = true := hd
      obtain ⟨c, rfl, he⟩ := pi_digit hb' rfl ((isCx_inv hd').1)
      have h6 := (isCx_inv hd').1
      apply h
      unfold pcxOk
      show (decide (49 ≤ c.toNat ∧ c.toNat ≤ 54 ∧ (58 : UInt8) = 58) && setsOk r && isCx ((c.toNat : Int) - 48) (setsXs r)) = true
      rw [hc', decide_eq_true (by exact ⟨by omega, by omega, rfl⟩), show (c.toNat : Int) - 48 = piVal [c] by omega, hd']
      rfl
end

/- Walks: DrawSplitByte, big; the plain law of splitting and joining. -/
section
open Go.RowKit

theorem join_cons2 (x y : List UInt8) (r : List (List UInt8)) (sep : List UInt8) : Lib.join (x :: y :: r) sep = x ++ sep ++ Lib.join (y :: r) sep := by
  rw [Lib.join_cons, Lib.join_cons]
  simp [Lib.joinTail, List.append_assoc]
theorem split_join (b : UInt8) : ∀ (n : Nat) (l : List UInt8), l.length ≤ n → Lib.join (splitB b l) [b] = l ∧ ∀ p ∈ splitB b l, b ∉ p
  | n, l, h => by
    by_cases hb : b ∈ l
    · obtain ⟨p, q, rfl, hp⟩ := first_at hb
      rw [splitB_cons hp]
      have hl : q.length < n := by simp at h; omega
      obtain ⟨h1, h2⟩ := split_join b (n - 1) q (by omega)
      have hne := splitB_ne b q
      constructor
      · cases hs : splitB b q with
        | nil => rw [hs] at hne; simp at hne
        | cons x r =>
          rw [hs] at h1
          rw [join_cons2, h1]
          simp
      · intro x hx
        rcases List.mem_cons.1 hx with rfl | hx
        · exact hp
        · exact h2 x hx
    · rw [splitB_none hb]
      refine ⟨Lib.join_one l [b], fun p hp => ?_⟩
      have : p = l := by simpa using hp
      rw [this]
      exact hb
termination_by n _ _ => n
decreasing_by omega
theorem lens_le {m : Nat} : ∀ {ls : List (List UInt8)}, (∀ p ∈ ls, p.length ≤ m) → Lib.lens ls ≤ m * ls.length
  | [], _ => by simp [Lib.lens]
  | x :: r, h => by
    have h1 := lens_le (ls := r) (fun p hp => h p (by simp [hp]))
    have h2 := h x (by simp)
    have e : Lib.lens (x :: r) = x.length + Lib.lens r := by simp [Lib.lens]
    rw [e, List.length_cons, Nat.mul_add, Nat.mul_one]
    omega
theorem bigS (v : Value) (L : List UInt8) (w : World) (h : BytesAt w w.heap.size v L) :
    Calls Try.prog 21 #[v] w fun e w' => e = .returned (.bool (decide (1048576 < (L.length : Int)))) ∧ w = w' := by
  obtain ⟨A, c, hv, hc, _⟩ := h
  have hl : (bytesV L).length = L.length := List.length_map _
  rw [hl] at hv hc
  subst hv
  go_enter Try.func21, Try.ntmps21
  go_wp2
  go_ret
  exact ⟨rfl, rfl⟩
theorem own_lit (e : TypeId) (w : World) (cs : Array Value) (h : cs.size ≤ 1048576) : OwnV e (w.alloc (.cells cs e)) w.heap.size (.slice (some ⟨w.heap.size, 0, none⟩) cs.size cs.size) cs.toList := by
  have := World.ownsRow_lit (size := 1) (e := e) (base := w.heap.size) w cs cs.size (Nat.le_refl _) (by unfold maxLen; omega) (by omega)
  show (w.alloc (.cells cs e)).ownsRow w.heap.size e 1 _ cs.toList.length cs.toList
  rw [Array.length_toList]
  exact this
theorem CurAt.low {B : Nat} {W W' : World} {p : Nat} {v : Value} {L : List UInt8} (h : CurAt W p v L) (hp : p < B) (k : Below B W W') : CurAt W' p v L := by
  obtain ⟨⟨i, x, i0, i1, h0, h1, h2⟩, f1, f2, hr⟩ := h
  obtain ⟨hc, hf⟩ := bcell k
  exact ⟨⟨i, x, i0, i1, (hc p 0 hp).trans h0, (hc p 1 hp).trans h1, (hc p 2 hp).trans h2⟩, (hf p 1 hp).trans f1, (hf p 2 hp).trans f2, hr.keep fun b o hb => hc b o (by omega)⟩
theorem grown_of_below {W a b : World} {row : Option Nat} (h : W.grownBy a row) (k : Below W.heap.size a b) : W.grownBy b row :=
  ⟨k.os.trans h.os, k.tape.trans h.tape, k.output.trans h.output, Nat.le_trans h.size k.size, fun i hi hne => (k.block i hi).trans (h.block i hi hne)⟩
/-- What a draw leaves of old memory. -/
theorem cur_below {B : Nat} {w W W' : World} {p : Nat} (h : Below B w W) (hz : B ≤ W.heap.size) (g : W.grownBy W' (some p)) (hp : B ≤ p) : Below B w W' :=
  h.trans (grown_below g hz (fun k hk => by cases hk; exact hp))

theorem lit_strs (w : World) (ls : List (List UInt8)) (T : TypeId) (h : ls.length ≤ 1048576) : StrsAt (w.alloc (.cells (strsV ls).toArray T)) (w.alloc (.cells (strsV ls).toArray T)).heap.size (.slice (some ⟨w.heap.size, 0, none⟩) ls.length ls.length) ls := by
  have h1 := own_reads (own_lit T w (strsV ls).toArray (by simpa using h))
  have e : (strsV ls).toArray.size = ls.length := by simp
  rw [e] at h1
  simpa using h1
theorem lit_ints (w : World) (xs : List Int) (T : TypeId) (h : xs.length ≤ 1048576) : IntsAt (w.alloc (.cells (ints xs).toArray T)) (w.alloc (.cells (ints xs).toArray T)).heap.size (.slice (some ⟨w.heap.size, 0, none⟩) xs.length xs.length) xs := by
  have h1 := own_reads (own_lit T w (ints xs).toArray (by simpa using h))
  have e : (ints xs).toArray.size = xs.length := by simp
  rw [e] at h1
  simpa using h1
theorem grown_of_alloc {w W' : World} {o : Obj} {row : Option Nat} (h : (w.alloc o).grownBy W' row) : w.grownBy W' row := grown_trans (World.grownBy_alloc w o row) h
/-- A pick out of a literal list: behind it the cursor has moved and new memory lies. -/
theorem pickLitS (p : Nat) (v : Value) (L : List UInt8) (ls : List (List UInt8)) (T : TypeId) (W : World) (h : CurAt W p v L) (hL : L.length ≤ 1073741824) (h0 : 0 < ls.length) (h1 : ls.length ≤ 1048576) :
    Calls Try.prog 105 #[.pointer (some ⟨p, 0, none⟩), .slice (some ⟨W.heap.size, 0, none⟩) ls.length ls.length] (W.alloc (.cells (strsV ls).toArray T)) fun e W' => ∃ l : List UInt8, l ∈ ls ∧ e = .returned (.string ⟨l.toArray⟩) ∧ CurAt W' p v L ∧ W.grownBy W' (some p) := by
  have hl := h.lt
  refine (l1PickS p v L _ ls _ (h.to (below_alloc _ _)) hL (lit_strs W ls T h1) h0 h1 (fun j hj => ?_) (fun b o n c e => ?_)).mono fun _ _ ⟨l, h1, h2, h3, h4⟩ => ⟨l, h1, h2, h3, grown_of_alloc h4⟩
  · have : some W.heap.size = some j := hj
    have := Option.some.inj this
    omega
  · cases e
    omega
theorem pickLitIntS (p : Nat) (v : Value) (L : List UInt8) (xs : List Int) (T : TypeId) (W : World) (h : CurAt W p v L) (hL : L.length ≤ 1073741824) (h0 : 0 < xs.length) (h1 : xs.length ≤ 1048576) :
    Calls Try.prog 106 #[.pointer (some ⟨p, 0, none⟩), .slice (some ⟨W.heap.size, 0, none⟩) xs.length xs.length] (W.alloc (.cells (ints xs).toArray T)) fun e W' => ∃ x : Int, x ∈ xs ∧ e = .returned (.int .i64 x) ∧ CurAt W' p v L ∧ W.grownBy W' (some p) := by
  have hl := h.lt
  refine (l1PickIntS p v L _ xs _ (h.to (below_alloc _ _)) hL (lit_ints W xs T h1) h0 h1 (fun b o n c e => ?_)).mono fun _ _ ⟨x, h1, h2, h3, h4⟩ => ⟨x, h1, h2, h3, grown_of_alloc h4⟩
  cases e
  omega

theorem drawSplitByteS (v : Value) (L : List UInt8) (w : World) (h : BytesAt w w.heap.size v L) (hL : L.length ≤ 1073741824) :
    Calls Try.prog 22 #[v] w fun e w' => ∃ (s : List UInt8) (b : UInt8), s.length ≤ 6 ∧ e = .returned (.tuple #[.string ⟨s.toArray⟩, .int .u8 (b.toNat : Int)]) ∧ Below w.heap.size w w' := by
  have H := hide h
  clear h
  go_enter Try.func22, Try.ntmps22
  go_wp2_with fail
  refine (l1NewS v L w H.out hL).mono ?_
  rintro e w1 ⟨p, rfl, hp, c1, b1⟩
  have B1 := hide b1
  have C1 := hide c1
  clear b1 c1
  go_wp2_with fail
  refine (pickLitS p v L [[], [97], [97, 44, 98], [44], [97, 44, 44, 98, 44], [97, 10, 98, 10]] _ w1 C1.out hL (by decide) (by decide)).mono ?_
  rintro e w2 ⟨s, hs, rfl, c2, g2⟩
  have hs6 : s.length ≤ 6 := by
    simp only [List.mem_cons, List.not_mem_nil, or_false] at hs
    rcases hs with rfl | rfl | rfl | rfl | rfl | rfl <;> decide
  have B2 := hide (cur_below B1.out B1.out.size g2 hp)
  have C2 := hide c2
  clear c2 g2 hs
  go_wp2_with fail
  refine (pickLitIntS p v L [44, 10] _ w2 C2.out hL (by decide) (by decide)).mono ?_
  rintro e w3 ⟨x, hx, rfl, c3, g3⟩
  have B3 := hide (cur_below B2.out B2.out.size g3 hp)
  clear c3 g3
  have hx2 : x = 44 ∨ x = 10 := by simpa using hx
  clear hx
  rcases hx2 with rfl | rfl
  · go_wp2
    go_ret2
    exact ⟨s, 44, hs6, rfl, B3.out⟩
  · go_wp2
    go_ret2
    exact ⟨s, 10, hs6, rfl, B3.out⟩
end

/- Walks: the laws' helpers on lists of ints. -/
section
open Go.RowKit

theorem eqIntS_any (v1 v2 : Value) (xs ys : List Int) (w : World) (h1 : IntsAt w w.heap.size v1 xs) (h2 : IntsAt w w.heap.size v2 ys) (hl1 : xs.length ≤ 1073741824) (_hl2 : ys.length ≤ 1073741824) :
    Calls Try.prog 28 #[v1, v2] w fun e w' => RetB w (decide (xs = ys)) e w' := by
  obtain ⟨A1, c1, rfl, hc1, he1⟩ := form_ h1
  obtain ⟨A2, c2, rfl, hc2, he2⟩ := form_ h2
  clear h1 h2
  by_cases hl : xs.length = ys.length
  · have hlen := hide hl
    have hbe : ((xs.length : Int) != (ys.length : Int)) = false := by rw [hl]; simp
    have h12 : xs.length ≤ ys.length := by omega
    have h21 : ys.length ≤ xs.length := by omega
    clear hl
    go_enter Try.func28, Try.ntmps28
    go_wp2
    go_loopw [5] (fun i wr => ∃ (k n : Nat), k ≤ xs.length ∧ i = .int .i64 k ∧ xs.take k = ys.take k ∧ wr = w.drewN n) (fun i _ => xs.length - (intOf i).toNat)
    case atStart => exact ⟨0, 0, by omega, rfl, by simp, rfl⟩
    case round =>
      obtain ⟨k, n, hk, rfl, ht, rfl⟩ := hrel
      have Ht := hide ht
      clear ht
      by_cases hlt : k < xs.length
      · have hlt2 : k < ys.length := by omega
        obtain ⟨b1, o1, x, rfl, hb1, hx, hcx⟩ := he1 k hlt
        obtain ⟨b2, o2, y, rfl, hb2, hy, hcy⟩ := he2 k hlt2
        have Hx := hide hx
        have Hy := hide hy
        clear hx hy he1 he2
        by_cases hxy : x = y
        · have hne : (x != y) = false := by simp [hxy]
          have Hxy := hide hxy
          clear hxy
          go_wp2
          go_quiet (fail)
          go_wp2
          go_roundw
          case rel => exact ⟨k + 1, _, by omega, by go_num, by rw [take_snoc _ _ _ Hx.out, take_snoc _ _ _ Hy.out, Ht.out, Hxy.out], rfl⟩
          case measure => simp [intOf]; omega
        · have hne : (x != y) = true := by simp [hxy]
          have Hxy := hide hxy
          clear hxy
          go_wp2
          go_quiet (fail)
          go_wp2
          go_ret
          refine ⟨ret_bool ?_, below_drewN (below_drewN (Below.refl _ _) _) _⟩
          symm
          apply decide_eq_false
          intro h
          have h1 := Hx.out
          have h2 := Hy.out
          rw [h, h2] at h1
          exact Hxy.out (Option.some.inj h1).symm
      · clear he1 he2
        go_wp2
        go_ret
        refine ⟨ret_bool ?_, below_drewN (Below.refl _ _) _⟩
        symm
        apply decide_eq_true
        have := Ht.out
        rwa [take_all _ _ (by omega), take_all _ _ (by omega)] at this
  · have hlen := hide hl
    have hbe : ((xs.length : Int) != (ys.length : Int)) = true := by simp; omega
    clear hl he1 he2
    go_enter Try.func28, Try.ntmps28
    go_wp2
    go_ret
    refine ⟨ret_bool ?_, Below.refl _ _⟩
    symm
    apply decide_eq_false
    intro h
    exact hlen.out (by rw [h])

/-- k, k + 1, .., n of them. -/
def marks (k : Int) (n : Nat) : List Int := (List.range n).map (fun (i : Nat) => k + (i : Int))
theorem marks_len (k : Int) (n : Nat) : (marks k n).length = n := by simp [marks]
theorem marks_succ (k : Int) (n : Nat) : marks k (n + 1) = marks k n ++ [k + (n : Int)] := by simp [marks, List.range_succ]
theorem marks_get (k : Int) (n i : Nat) (h : i < n) : (marks k n)[i]? = some (k + (i : Int)) := by simp [marks, h]
theorem marked_set (k : Int) (xs : List Int) (i : Nat) (h : i < xs.length) : (marks k i ++ xs.drop i).set i (k + (i : Int)) = marks k (i + 1) ++ xs.drop (i + 1) := by
  rw [List.set_append_right _ _ (by rw [marks_len]; omega), marks_len, Nat.sub_self, List.drop_eq_getElem_cons h, List.set_cons_zero, marks_succ]
  simp
theorem marked_len (k : Int) (xs : List Int) (i : Nat) (h : i ≤ xs.length) : (marks k i ++ xs.drop i).length = xs.length := by
  simp [marks_len]; omega

theorem markIntS_any {B : Nat} (v : Value) (xs : List Int) (k : Int) (w : World) (h : OwnV 3 w B v (ints xs)) (hk0 : 0 ≤ k) (hk1 : k ≤ 1099511627776) (hl : xs.length ≤ 1073741824) :
    Calls Try.prog 110 #[v, .int .i64 k] w fun e w' => e = .returned (.int .i64 (k + xs.length)) ∧ OwnV 3 w' B v (ints (marks k xs.length)) ∧ w.grownBy w' v.ownBlock := by
  rcases own_form h with ⟨rfl, hx⟩ | ⟨g, cap, hv, hg, hgl, hcap⟩
  · have hx0 : xs = [] := by simpa [ints] using hx
    subst hx0
    have H := hide h
    clear h
    go_enter Try.func110, Try.ntmps110
    go_wp2
    refine wp_loop_rounds 1 ?_
    rw [rounds_succ]
    go_wp2
    go_ret
    exact ⟨by simp, by simpa [marks] using H.out, grown_refl _ _⟩
  · rw [ints_length] at hv hcap
    subst hv
    go_enter Try.func110, Try.ntmps110
    go_wp2
    go_loopw [1, 5] (fun m i wr => ∃ j : Nat, j ≤ xs.length ∧ i = .int .i64 j ∧ m = .int .i64 (k + j) ∧ OwnV 3 wr B (.slice (some ⟨g, 0, none⟩) xs.length cap) (ints (marks k j ++ xs.drop j)) ∧ w.grownBy wr (some g)) (fun _ i _ => xs.length - (intOf i).toNat)
    case atStart => exact ⟨0, by omega, rfl, by simp, by simpa [marks] using h, grown_refl _ _⟩
    case round =>
      obtain ⟨j, hj, rfl, rfl, hown, hgr⟩ := hrel
      by_cases hlt : j < xs.length
      · have hml := marked_len k xs j hj
        have hms := marked_set k xs j hlt
        have hvv : Value.slice (some ⟨g, 0, none⟩) xs.length cap = .slice (some ⟨g, 0, none⟩) (ints (marks k j ++ xs.drop j)).length cap := by rw [ints_length, hml]
        obtain ⟨u, hu⟩ : ∃ u, (ints (marks k j ++ xs.drop j))[j]? = some u := ⟨_, List.getElem?_eq_getElem (by rw [ints_length, hml]; omega)⟩
        obtain ⟨hc, hf⟩ := own_cell hown hvv hu
        have hset := own_set hown hvv j (.int .i64 (k + j))
        have hgs := grown_setCell hgr j (.int .i64 (k + j))
        have es : (ints (marks k j ++ xs.drop j)).set j (.int .i64 (k + j)) = ints (marks k (j + 1) ++ xs.drop (j + 1)) := by rw [← hms]; simp [ints, List.map_set]
        rw [es] at hset
        have Hs := hide hset
        have Hg := hide hgs
        clear hset hgs es hms hml hvv hu hown hgr h
        go_wp2
        go_roundw
        case rel => exact ⟨j + 1, by omega, by go_num, by go_num, Hs.out, Hg.out⟩
        case measure => simp [intOf]; omega
      · have hj2 : j = xs.length := by omega
        have Ho := hide hown
        have Hg := hide hgr
        clear hown hgr h
        go_wp2
        go_ret
        subst hj2
        refine ⟨rfl, ?_, Hg.out⟩
        have := Ho.out
        rw [List.drop_length, List.append_nil] at this
        exact this

theorem heldIntS_yes (v : Value) (n : Nat) (k : Int) (w : World) (h : IntsAt w w.heap.size v (marks k n)) (hk0 : 0 ≤ k) (hk1 : k ≤ 1099511627776) (hl : n ≤ 1073741824) :
    Calls Try.prog 111 #[v, .int .i64 k] w fun e w' => RetN w (k + n) e w' := by
  obtain ⟨A, c, rfl, hc, he⟩ := form_ h
  clear h
  rw [marks_len] at hc he ⊢
  go_enter Try.func111, Try.ntmps111
  go_wp2
  go_loopw [1, 5] (fun m i wr => ∃ (j q : Nat), j ≤ n ∧ i = .int .i64 j ∧ m = .int .i64 (k + j) ∧ wr = w.drewN q) (fun _ i _ => n - (intOf i).toNat)
  case atStart => exact ⟨0, 0, by omega, rfl, by simp, rfl⟩
  case round =>
    obtain ⟨j, q, hj, rfl, rfl, rfl⟩ := hrel
    by_cases hlt : j < n
    · obtain ⟨b, o, x, rfl, hb, hx, hcx⟩ := he j hlt
      rw [marks_get _ _ _ hlt] at hx
      obtain rfl := Option.some.inj hx
      have hne : (k + (j : Int) != k + (j : Int)) = false := by simp
      clear hx he
      go_wp2
      go_roundw
      case rel => exact ⟨j + 1, _, by omega, by go_num, by go_num, rfl⟩
      case measure => simp [intOf]; omega
    · obtain rfl : j = n := by omega
      clear he
      go_wp2
      go_ret
      exact ⟨rfl, below_drewN (Below.refl _ _) _⟩
end
end Go.Proofs.Ytmkacjpjcfffmaa
