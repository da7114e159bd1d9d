/- Texts of one kind, laid together (9 of them). -/
import Derived.Lib.Strings
import Derived.Test.YtmkacjpjcfffmabGreatDoorP1
namespace Go.Proofs.YtmkacjpjcfffmabGreatDoor
/- Plain laws: splitting a list of bytes at a byte. No program is named here. -/
section
/-- Behind k bytes: the parts that are closed, and where the open one begins. -/
def spTo (b : UInt8) (l : List UInt8) : Nat → List (List UInt8) × Nat
  | 0 => ([], 0)
  | k + 1 => let r := spTo b l k
    if l[k]? = some b then (r.1 ++ [(l.drop r.2).take (k - r.2)], k + 1) else r
def splitB (b : UInt8) (l : List UInt8) : List (List UInt8) := (spTo b l l.length).1 ++ [l.drop (spTo b l l.length).2]
theorem spTo_hit (b : UInt8) (l : List UInt8) (k : Nat) (h : l[k]? = some b) : spTo b l (k + 1) = ((spTo b l k).1 ++ [(l.drop (spTo b l k).2).take (k - (spTo b l k).2)], k + 1) := by
  simp [spTo, h]
theorem spTo_miss (b : UInt8) (l : List UInt8) (k : Nat) (h : l[k]? ≠ some b) : spTo b l (k + 1) = spTo b l k := by
  simp [spTo, h]
theorem spTo_le (b : UInt8) (l : List UInt8) : ∀ k, (spTo b l k).2 ≤ k ∧ (spTo b l k).1.length ≤ k := by
  intro k
  induction k with
  | zero => simp [spTo]
  | succ k ih =>
    by_cases h : l[k]? = some b
    · rw [spTo_hit b l k h]
      simp
      omega
    · rw [spTo_miss b l k h]
      omega
theorem splitB_len (b : UInt8) (l : List UInt8) : (splitB b l).length ≤ l.length + 1 := by
  have := (spTo_le b l l.length).2
  simp [splitB]
  omega
end

/- Walks: SplitByte, in the program and in the reference. -/
section
open Go.RowKit

theorem infoS' : (Tryz.prog.info? 9).map (fun i => (i.zero, i.size, i.bytes)) = some (some (.string ⟨#[]⟩), 1, 16) := by kernel_rfl

theorem cut_eq (l : List UInt8) (a b : Nat) : (⟨l.toArray⟩ : ByteArray).extract a b = ⟨((l.drop a).take (b - a)).toArray⟩ := by
  have := Lib.extract_eq (⟨l.toArray⟩ : ByteArray) a b
  simpa using this
theorem splitByteI (l : List UInt8) (b : UInt8) (w : World) (hl : l.length ≤ 1073741824) :
    Calls Tryz.prog 36 #[.string ⟨l.toArray⟩, .int .u8 (b.toNat : Int)] w fun e w' => RetSs 9 w (splitB b l) e w' := by
  go_enter Tryz.func36, Tryz.ntmps36
  go_wp2
  go_loopw [5, 6, 7] (fun v st i wr => ∃ (k : Nat), k ≤ l.length ∧ i = .int .i64 k ∧ st = .int .i64 ((spTo b l k).2 : Int) ∧ OwnV 9 wr w.heap.size v (strsV (spTo b l k).1) ∧ Below w.heap.size w wr) (fun _ _ i _ => l.length - (intOf i).toNat)
  case atStart => exact ⟨0, by omega, rfl, rfl, own_nil _ _, Below.refl _ _⟩
  case round =>
    obtain ⟨k, hk, rfl, rfl, hown, hb⟩ := hrel
    have hle := spTo_le b l k
    by_cases hlt : k < l.length
    · obtain ⟨c, hc⟩ : ∃ c, l[k]? = some c := ⟨_, List.getElem?_eq_getElem hlt⟩
      have Hc := hide hc
      obtain ⟨hk1, hgl⟩ := bget l k c hc
      clear hc
      by_cases hcb : c = b
      · subst hcb
        have hp := hide (spTo_hit c l k Hc.out)
        have hq : ((c.toNat : Int) == (c.toNat : Int)) = true := by simp
        have hlen : (strsV (spTo c l k).1).length < 17179869184 := by rw [strsV_length]; omega
        go_wp2_with (at_builtin; refine wpList_appV hown (.string ((⟨l.toArray⟩ : ByteArray).extract (spTo c l k).2 k)) (.string ⟨#[]⟩) 16 Tryz.underlying50 infoS' rfl (by decide) rfl rfl _ _ rfl rfl rfl hlen hb.size ?_; intro v' w1 hown1 hb1 _)
        have Ho : Hid (OwnV 9 w1 w.heap.size v' (strsV (spTo c l (k + 1)).1)) := by
          rw [hp.out]
          show OwnV _ _ _ _ (strsV ((spTo c l k).1 ++ [_]))
          rw [strsV_snoc, ← cut_eq]
          exact hown1
        have H2 := hide (congrArg Prod.snd hp.out)
        have Hb := hide (hb.trans hb1)
        clear hown1 hb1 hown hb hlen
        go_wp2
        go_roundw
        case rel => exact ⟨k + 1, by omega, by go_num, by rw [H2.out]; go_num, Ho.out, Hb.out⟩
        case measure => simp [intOf]; omega
      · have hp := hide (spTo_miss b l k (by rw [Hc.out]; simpa using hcb))
        have hq : ((c.toNat : Int) == (b.toNat : Int)) = false := by
          have : c.toNat ≠ b.toNat := fun h => hcb (UInt8.toNat_inj.1 h)
          simp
          omega
        go_wp2
        go_roundw
        case rel => exact ⟨k + 1, by omega, by go_num, by rw [hp.out], by rw [hp.out]; exact hown, hb⟩
        case measure => simp [intOf]; omega
    · have Hk := hide (show k = l.length by omega)
      have hlen : (strsV (spTo b l k).1).length < 17179869184 := by rw [strsV_length]; omega
      have hge : l.length ≤ k := by omega
      go_wp2_with (at_builtin; refine wpList_appV hown (.string ((⟨l.toArray⟩ : ByteArray).extract (spTo b l k).2 l.length)) (.string ⟨#[]⟩) 16 Tryz.underlying50 infoS' rfl (by decide) rfl rfl _ _ rfl rfl rfl hlen hb.size ?_; intro v' w1 hown1 hb1 _)
      go_ret
      refine ⟨_, rfl, ?_, hb.trans hb1⟩
      have e : splitB b l = (spTo b l k).1 ++ [(l.drop (spTo b l k).2).take (l.length - (spTo b l k).2)] := by
        unfold splitB
        rw [← Hk.out, List.take_of_length_le (by rw [List.length_drop, Hk.out]; exact Nat.le_refl _)]
      rw [e, strsV_snoc, ← cut_eq]
      exact hown1

theorem splitByteS (l : List UInt8) (b : UInt8) (w : World) (hl : l.length ≤ 1073741824) :
    Calls Tryz.prog 38 #[.string ⟨l.toArray⟩, .int .u8 (b.toNat : Int)] w fun e w' => RetSs 9 w (splitB b l) e w' := by
  go_enter Tryz.func38, Tryz.ntmps38
  go_wp2
  go_loopw [5, 6, 7] (fun v st i wr => ∃ (k f : Nat) (ls : List (List UInt8)), k ≤ l.length + 1 ∧ i = .int .i64 k ∧ st = .int .i64 (f : Int) ∧ Hid ((k ≤ l.length → ls = (spTo b l k).1 ∧ f = (spTo b l k).2) ∧ (k = l.length + 1 → ls = splitB b l)) ∧ OwnV 9 wr w.heap.size v (strsV ls) ∧ Below w.heap.size w wr) (fun _ _ i _ => l.length + 1 - (intOf i).toNat)
  case atStart => exact ⟨0, 0, [], by omega, rfl, rfl, ⟨fun _ => ⟨rfl, rfl⟩, fun h => by omega⟩, own_empty _ _, below_alloc _ _⟩
  case round =>
    obtain ⟨k, f, ls, hk, rfl, rfl, hrl, hown, hb⟩ := hrel
    by_cases hlt : k ≤ l.length
    · obtain ⟨rfl, rfl⟩ := hrl.out.1 hlt
      clear hrl
      have hle := spTo_le b l k
      have hlen : (strsV (spTo b l k).1).length < 17179869184 := by rw [strsV_length]; omega
      by_cases hlt2 : k < l.length
      · obtain ⟨c, hc⟩ : ∃ c, l[k]? = some c := ⟨_, List.getElem?_eq_getElem hlt2⟩
        have Hc := hide hc
        obtain ⟨hk1, hgl⟩ := bget l k c hc
        clear hc
        have hkne : ((k : Int) == (l.length : Int)) = false := by simp; omega
        by_cases hcb : c = b
        · subst hcb
          have hp := hide (spTo_hit c l k Hc.out)
          have hq : ((c.toNat : Int) == (c.toNat : Int)) = true := by simp
          go_wp2_with (at_builtin; refine wpList_appV hown (.string ((⟨l.toArray⟩ : ByteArray).extract (spTo c l k).2 k)) (.string ⟨#[]⟩) 16 Tryz.underlying50 infoS' rfl (by decide) rfl rfl _ _ rfl rfl rfl hlen hb.size ?_; intro v' w1 hown1 hb1 _)
          have Ho : Hid (OwnV 9 w1 w.heap.size v' (strsV (spTo c l (k + 1)).1)) := by
            rw [hp.out]
            show OwnV _ _ _ _ (strsV ((spTo c l k).1 ++ [_]))
            rw [strsV_snoc, ← cut_eq]
            exact hown1
          have H2 := hide (congrArg Prod.snd hp.out)
          have Hb := hide (hb.trans hb1)
          clear hown1 hb1 hown hb hlen
          go_wp2
          go_roundw
          case rel => exact ⟨k + 1, (spTo c l (k + 1)).2, _, by omega, by go_num, by rw [H2.out]; go_num, ⟨fun _ => ⟨rfl, rfl⟩, fun h => by omega⟩, Ho.out, Hb.out⟩
          case measure => simp [intOf]; omega
        · have hp := hide (spTo_miss b l k (by rw [Hc.out]; simpa using hcb))
          have hq : ((c.toNat : Int) == (b.toNat : Int)) = false := by
            have : c.toNat ≠ b.toNat := fun h => hcb (UInt8.toNat_inj.1 h)
            simp
            omega
          go_wp2
          go_roundw
          case rel => exact ⟨k + 1, (spTo b l (k + 1)).2, (spTo b l (k + 1)).1, by omega, by go_num, by rw [hp.out], ⟨fun _ => ⟨rfl, rfl⟩, fun h => by omega⟩, by rw [hp.out]; exact hown, hb⟩
          case measure => simp [intOf]; omega
      · have Hk := hide (show k = l.length by omega)
        have hkne : ((k : Int) == (l.length : Int)) = true := by simp; omega
        have hge : l.length ≤ k := by omega
        clear hlt2
        go_wp2_with (at_builtin; refine wpList_appV hown (.string ((⟨l.toArray⟩ : ByteArray).extract (spTo b l k).2 k)) (.string ⟨#[]⟩) 16 Tryz.underlying50 infoS' rfl (by decide) rfl rfl _ _ rfl rfl rfl hlen hb.size ?_; intro v' w1 hown1 hb1 _)
        have Ho : Hid (OwnV 9 w1 w.heap.size v' (strsV (splitB b l))) := by
          have e : splitB b l = (spTo b l k).1 ++ [(l.drop (spTo b l k).2).take (k - (spTo b l k).2)] := by
            unfold splitB
            rw [← Hk.out, List.take_of_length_le (by rw [List.length_drop, Hk.out]; exact Nat.le_refl _)]
          rw [e, strsV_snoc, ← cut_eq]
          exact hown1
        have Hb := hide (hb.trans hb1)
        clear hown1 hb1 hown hb hlen
        go_wp2
        go_roundw
        case rel => exact ⟨k + 1, k + 1, _, by omega, by go_num, by go_num, ⟨fun h => by omega, fun _ => rfl⟩, Ho.out, Hb.out⟩
        case measure => simp [intOf]; omega
    · have hls := hide (hrl.out.2 (by omega))
      have hgt : l.length < k := by omega
      clear hrl hlt
      go_wp2
      go_ret
      exact ⟨_, rfl, by rw [← hls.out]; exact hown, hb⟩
end

/- Walks: sizes and the order of sets, a family's bit. -/
section
open Go.RowKit

theorem ones64 (s : Nat) (hs : s < 64) (w : World) : Calls Tryz.prog 90 #[.int .u64 (s : Int)] w fun e w' => e = .returned (.int .i64 (pc s)) ∧ w = w' := by
  go_enter Tryz.func90, Tryz.ntmps90
  go_wp2
  go_ret
  refine ⟨ret_int ?_, rfl⟩
  clear w
  revert s
  decide +kernel

theorem and_one (j : Nat) (h : j < 9223372036854775808) : bits .and .i64 (j : Int) 1 = ((j % 2 : Nat) : Int) := by
  rw [show (1 : Int) = ((1 : Nat) : Int) from rfl, i64_and _ _ h (by omega), nat_mask1]
theorem l2SizeS (s : Int) (w : World) (h : s ≤ 9223372036854775807) : Calls Tryz.prog 76 #[.int .i64 s] w fun e w' => e = .returned (.int .i64 (pc s.toNat)) ∧ w = w' := by
  by_cases h0 : s ≤ 0
  · have H := hide (show pc s.toNat = 0 by rw [Int.toNat_of_nonpos h0]; rfl)
    go_enter Tryz.func76, Tryz.ntmps76
    go_wp2
    refine wp_loop_rounds 1 ?_
    rw [rounds_succ]
    go_wp2
    go_ret
    exact ⟨by rw [H.out]; rfl, rfl⟩
  · obtain ⟨m, rfl⟩ := Int.eq_ofNat_of_zero_le (show 0 ≤ s by omega)
    rw [Int.toNat_natCast]
    have hpm := pc_bits 63 m (by omega)
    go_enter Tryz.func76, Tryz.ntmps76
    go_wp2
    go_loop [3, 0] (fun n i => ∃ (j r : Nat), j ≤ m ∧ i = .int .i64 j ∧ n = .int .i64 r ∧ r ≤ pc m ∧ Hid (r + pc j = pc m)) (fun _ i => (intOf i).toNat)
    case atStart => exact ⟨m, 0, by omega, rfl, rfl, by omega, by simp [Hid]⟩
    case round =>
      obtain ⟨j, r, hj, rfl, rfl, hr, hp⟩ := hrel
      by_cases hlt : 0 < j
      · have hb := and_one j (by omega)
        have Hp := hide (pc_pos hlt)
        have hdv : j / 2 < j := Nat.div_lt_self (by omega) (by omega)
        have hj2 : j % 2 ≤ 1 := by omega
        go_wp2
        go_round
        case rel => exact ⟨j / 2, r + j % 2, by omega, by go_num, by go_num, by have := hp.out; rw [Hp.out] at this; omega, by have := hp.out; rw [Hp.out] at this; show _ = _; omega⟩
        case measure => simp [intOf]; omega
      · obtain rfl : j = 0 := by omega
        go_wp2
        go_ret
        exact ⟨ret_int (by have := hp.out; rw [pc_zero] at this; omega), rfl⟩

theorem bit_of (F s : Nat) (hF : F < 18446744073709551616) : (bits BinOp.and IntKind.u64 ((F : Int) / 2 ^ s) 1 == 1) = F.testBit s := by
  have e : ((F : Int) / 2 ^ s) = ((F / 2 ^ s : Nat) : Int) := by simp
  have hle : F / 2 ^ s ≤ F := Nat.div_le_self _ _
  rw [e, show (1 : Int) = ((1 : Nat) : Int) from rfl, u64_and_nat _ _ (by omega) (by omega), nat_mask1, Nat.testBit_eq_decide_div_mod_eq]
  generalize F / 2 ^ s % 2 = q
  by_cases hq : q = 1
  · simp [hq]
  · have h2 : ¬ ((q : Int) = 1) := by omega
    simp [hq, h2]
theorem hasSetI (F s : Nat) (hF : F < 18446744073709551616) (hs : s < 64) (w : World) : Calls Tryz.prog 55 #[.int .u64 (F : Int), .int .i64 (s : Int)] w fun e w' => e = .returned (.bool (F.testBit s)) ∧ w = w' := by
  go_enter Tryz.func55, Tryz.ntmps55
  go_wp2
  go_ret
  exact ⟨ret_bool (bit_of F s hF), rfl⟩

/-- A set's size, -1 of what is no set. -/
def sizeOf (s : Int) : Int := if 0 ≤ s ∧ s < 64 then (pc s.toNat : Int) else -1
theorem sizeOf_yes {s : Nat} (h : s < 64) : sizeOf (s : Int) = (pc s : Int) := by
  have : (0 : Int) ≤ s ∧ (s : Int) < 64 := by omega
  simp [sizeOf, this]
theorem sizeOf_no {s : Int} (h : ¬ (0 ≤ s ∧ s < 64)) : sizeOf s = -1 := by simp only [sizeOf, if_neg h]
theorem sizeOfI (s : Int) (w : World) : Calls Tryz.prog 77 #[.int .i64 s] w fun e w' => e = .returned (.int .i64 (sizeOf s)) ∧ w = w' := by
  by_cases hs : 0 ≤ s ∧ s < 64
  · obtain ⟨m, rfl⟩ := Int.eq_ofNat_of_zero_le hs.1
    have hm : m < 64 := by omega
    have h : isSetB 6 m = true := by rw [isSetB_six]; exact decide_eq_true hs
    have H := hide (sizeOf_yes hm)
    go_enter Tryz.func77, Tryz.ntmps77
    go_wp2_with (first | (go_at_call 54; refine (isSetI _ _ _).mono ?_; rintro e w' ⟨rfl, rfl⟩) | (go_at_call 90; refine (ones64 _ hm _).mono ?_; rintro e w' ⟨rfl, rfl⟩) | go_in)
    go_ret
    exact ⟨by rw [H.out]; rfl, rfl⟩
  · have h : isSetB 6 s = false := by rw [isSetB_six]; exact decide_eq_false hs
    have H := hide (sizeOf_no hs)
    clear hs
    go_enter Tryz.func77, Tryz.ntmps77
    go_wp2_with (go_at_call 54; refine (isSetI _ _ _).mono ?_; rintro e w' ⟨rfl, rfl⟩)
    go_ret
    exact ⟨by rw [H.out]; rfl, rfl⟩
/-- The order of any two ints by their bits. -/
def beforeI (a b : Int) : Bool := decide (pc a.toNat < pc b.toNat) || (decide (pc a.toNat = pc b.toNat) && decide (a < b))
theorem l2BeforeS (a b : Int) (w : World) (ha : a ≤ 9223372036854775807) (hb : b ≤ 9223372036854775807) : Calls Tryz.prog 61 #[.int .i64 a, .int .i64 b] w fun e w' => e = .returned (.bool (beforeI a b)) ∧ w = w' := by
  generalize hx : pc a.toNat = x
  generalize hy : pc b.toNat = y
  have Hx := hide hx
  have Hy := hide hy
  have H := hide (show beforeI a b = (decide (x < y) || (decide (x = y) && decide (a < b))) by rw [← hx, ← hy]; rfl)
  clear hx hy
  rcases Nat.lt_trichotomy x y with h | h | h
  · have Hr := hide (show (decide (x < y) || (decide (x = y) && decide (a < b))) = true by simp [h])
    go_enter Tryz.func61, Tryz.ntmps61
    go_wp2_with fail
    refine (l2SizeS _ _ ha).mono ?_
    rw [Hx.out]
    rintro e w' ⟨rfl, rfl⟩
    go_wp2_with fail
    refine (l2SizeS _ _ hb).mono ?_
    rw [Hy.out]
    rintro e w' ⟨rfl, rfl⟩
    go_wp2
    go_ret
    exact ⟨by rw [H.out, Hr.out]; rfl, rfl⟩
  · subst h
    have Hr := hide (show (decide (x < x) || (decide (x = x) && decide (a < b))) = decide (a < b) by simp)
    go_enter Tryz.func61, Tryz.ntmps61
    go_wp2_with fail
    refine (l2SizeS _ _ ha).mono ?_
    rw [Hx.out]
    rintro e w' ⟨rfl, rfl⟩
    go_wp2_with fail
    refine (l2SizeS _ _ hb).mono ?_
    rw [Hy.out]
    rintro e w' ⟨rfl, rfl⟩
    go_wp2
    go_ret
    exact ⟨by rw [H.out, Hr.out]; rfl, rfl⟩
  · have Hr := hide (show (decide (x < y) || (decide (x = y) && decide (a < b))) = false by simp; omega)
    have h3 : ((x : Int) == (y : Int)) = false := by simp; omega
    go_enter Tryz.func61, Tryz.ntmps61
    go_wp2_with fail
    refine (l2SizeS _ _ ha).mono ?_
    rw [Hx.out]
    rintro e w' ⟨rfl, rfl⟩
    go_wp2_with fail
    refine (l2SizeS _ _ hb).mono ?_
    rw [Hy.out]
    rintro e w' ⟨rfl, rfl⟩
    go_wp2
    go_ret
    exact ⟨ret_bool (by rw [H.out, Hr.out]; simp; omega), rfl⟩
end

/- Plain laws: the greatest and the least sets of a family. No program is named here. -/
section
def keepMax (l : List Nat) (s : Nat) : Bool := l.all fun t => !(sub s t && t != s)
def keepMin (l : List Nat) (s : Nat) : Bool := l.all fun t => !(sub t s && t != s)
def maxL (l : List Nat) : List Nat := l.filter (keepMax l)
def minL (l : List Nat) : List Nat := l.filter (keepMin l)
/-- The greatest, the least sets of a family, in order. -/
def maxOf (P : Nat → Bool) : List Nat := maxL (listOf P)
def minOf (P : Nat → Bool) : List Nat := minL (listOf P)
def subPc (s t : Nat) : Bool := !(sub s t && t != s) || decide (pc s < pc t)
theorem subPc_all : ((List.range 64).all fun s => (List.range 64).all fun t => subPc s t) = true := by decide +kernel
theorem sub_pc {s t : Nat} (hs : s < 64) (ht : t < 64) (h : sub s t = true) (hne : t ≠ s) : pc s < pc t := by
  have h1 := List.all_eq_true.1 (List.all_eq_true.1 subPc_all s (List.mem_range.2 hs)) t (List.mem_range.2 ht)
  unfold subPc at h1
  rw [h] at h1
  have : (t != s) = true := by simpa using hne
  rw [this] at h1
  simpa using h1
/-- A list as the order has it. -/
def Ordered (l : List Nat) : Prop := l.Pairwise (fun a b => pc a ≤ pc b ∧ a ≠ b) ∧ ∀ s ∈ l, s < 64
theorem layer_pair (P : Nat → Bool) (k : Nat) : (layer P k).Pairwise (fun a b => pc a ≤ pc b ∧ a ≠ b) := by
  have h1 : (layer P k).Pairwise (fun a b => a ≠ b) := (List.nodup_range (n := 64)).filter _
  refine List.Pairwise.imp_of_mem ?_ h1
  intro a b ha hb hne
  have := (mem_layer.1 ha).2.2
  have := (mem_layer.1 hb).2.2
  exact ⟨by omega, hne⟩
theorem lows_pair (P : Nat → Bool) : ∀ k, (lows P k).Pairwise (fun a b => pc a ≤ pc b ∧ a ≠ b) ∧ ∀ s ∈ lows P k, pc s < k := by
  intro k
  induction k with
  | zero => simp [lows]
  | succ k ih =>
    rw [lows_succ]
    refine ⟨List.pairwise_append.2 ⟨ih.1, layer_pair P k, ?_⟩, ?_⟩
    · intro a ha b hb
      have h1 := ih.2 a ha
      have h2 := (mem_layer.1 hb).2.2
      exact ⟨by omega, fun e => by subst e; omega⟩
    · intro s hs
      rcases List.mem_append.1 hs with h | h
      · have := ih.2 s h
        omega
      · have := (mem_layer.1 h).2.2
        omega
theorem listOf_ordered (P : Nat → Bool) : Ordered (listOf P) := ⟨(lows_pair P 7).1, fun _ hs => (mem_listOf.1 hs).1⟩
theorem parts_at {l : List Nat} {k s : Nat} (h : l[k]? = some s) : l = l.take k ++ s :: l.drop (k + 1) := by
  obtain ⟨hk, he⟩ := List.getElem?_eq_some_iff.1 h
  rw [← he, ← List.drop_eq_getElem_cons hk, List.take_append_drop]
/-- At its place a set is greatest if no later one holds it. -/
theorem keepMax_at {l : List Nat} (ho : Ordered l) {k s : Nat} (h : l[k]? = some s) : keepMax l s = !((l.drop (k + 1)).any (sub s)) := by
  have hp := parts_at h
  have hs : s < 64 := ho.2 s (List.mem_of_getElem? h)
  have hpw := ho.1
  rw [hp] at hpw
  obtain ⟨_, h2, h3⟩ := List.pairwise_append.1 hpw
  obtain ⟨h4, _⟩ := List.pairwise_cons.1 h2
  rw [Bool.eq_iff_iff]
  simp only [keepMax, List.all_eq_true, Bool.not_eq_true', Bool.and_eq_false_iff, List.any_eq_false]
  constructor
  · intro hall t ht hst
    have hm : t ∈ l := List.mem_of_mem_drop ht
    rcases hall t hm with hf | hf
    · rw [hst] at hf
      cases hf
    · have := (h4 t ht).2
      simp at hf
      exact this hf.symm
  · intro hno t ht
    rw [hp] at ht
    rcases List.mem_append.1 ht with hm | hm
    · left
      have h5 := h3 t hm s (by simp)
      cases hc : sub s t with
      | false => rfl
      | true =>
        have := sub_pc hs (ho.2 t (List.mem_of_mem_take hm)) hc h5.2
        omega
    · rcases List.mem_cons.1 hm with rfl | hm
      · right; simp
      · left
        cases hc : sub s t with
        | false => rfl
        | true => exact absurd hc (hno t hm)
/-- The greatest sets among the first k. -/
def maxTo (l : List Nat) (k : Nat) : List Nat := (l.take k).filter (keepMax l)
theorem maxTo_yes {l : List Nat} (ho : Ordered l) {k s : Nat} (h : l[k]? = some s) (hn : (l.drop (k + 1)).any (sub s) = false) : maxTo l (k + 1) = maxTo l k ++ [s] := by
  have h1 := keepMax_at ho h
  rw [hn] at h1
  have h2 : l.take (k + 1) = l.take k ++ [s] := by rw [List.take_add_one, h]; rfl
  simp [maxTo, h2, List.filter_append, h1]
theorem maxTo_no {l : List Nat} (ho : Ordered l) {k s : Nat} (h : l[k]? = some s) (hn : (l.drop (k + 1)).any (sub s) = true) : maxTo l (k + 1) = maxTo l k := by
  have h1 := keepMax_at ho h
  rw [hn] at h1
  have h2 : l.take (k + 1) = l.take k ++ [s] := by rw [List.take_add_one, h]; rfl
  simp [maxTo, h2, List.filter_append, h1]
theorem maxTo_len (l : List Nat) (k : Nat) : (maxTo l k).length ≤ k := Nat.le_trans (List.length_filter_le _ _) (List.length_take_le _ _)
theorem maxTo_all (l : List Nat) (k : Nat) (h : l.length ≤ k) : maxTo l k = maxL l := by
  unfold maxTo maxL
  rw [List.take_of_length_le h]
/-- The least sets among the first k. -/
def minTo (l : List Nat) (k : Nat) : List Nat := (l.take k).filter (keepMin l)
/-- A list of sets that is not empty has one of least size. -/
theorem least_pc : ∀ (l : List Nat), l ≠ [] → ∃ t ∈ l, ∀ u ∈ l, pc t ≤ pc u := by
  intro l
  induction l with
  | nil => intro h; exact absurd rfl h
  | cons a l ih =>
    intro _
    by_cases hl : l = []
    · subst hl
      exact ⟨a, by simp, by simp⟩
    · obtain ⟨t, ht, hm⟩ := ih hl
      by_cases hc : pc a ≤ pc t
      · refine ⟨a, by simp, ?_⟩
        intro u hu
        rcases List.mem_cons.1 hu with rfl | hu
        · exact Nat.le_refl _
        · exact Nat.le_trans hc (hm u hu)
      · refine ⟨t, by simp [ht], ?_⟩
        intro u hu
        rcases List.mem_cons.1 hu with rfl | hu
        · omega
        · exact hm u hu
theorem sub_trans {a b c : Nat} (h : sub a b = true) (k : sub b c = true) : sub a c = true := by
  have h1 : a &&& b = a := by simpa [sub] using h
  have k1 : b &&& c = b := by simpa [sub] using k
  have : a &&& c = a := by
    rw [← h1, Nat.and_assoc, k1]
  simp [sub, this]
/-- At its place a set is least if none of the least before it lies in it. -/
theorem keepMin_at {l : List Nat} (ho : Ordered l) {k s : Nat} (h : l[k]? = some s) : keepMin l s = !((minTo l k).any (fun t => sub t s)) := by
  have hp := parts_at h
  have hs : s < 64 := ho.2 s (List.mem_of_getElem? h)
  have hpw := ho.1
  rw [hp] at hpw
  obtain ⟨_, h2, h3⟩ := List.pairwise_append.1 hpw
  obtain ⟨h4, _⟩ := List.pairwise_cons.1 h2
  rw [Bool.eq_iff_iff]
  constructor
  · intro hk
    rw [Bool.not_eq_true', List.any_eq_false]
    intro t ht hst
    have hm := (List.mem_filter.1 ht).1
    have hne := (h3 t hm s (by simp)).2
    have := List.all_eq_true.1 hk t (List.mem_of_mem_take hm)
    rw [hst] at this
    have h5 : (t != s) = true := by simpa using hne
    rw [h5] at this
    cases this
  · intro hno
    rw [Bool.not_eq_true', List.any_eq_false] at hno
    apply List.all_eq_true.2
    intro t ht
    cases hc : sub t s && t != s with
    | false => rfl
    | true =>
      exfalso
      obtain ⟨c1, c2⟩ := Bool.and_eq_true_iff.1 hc
      have hne : t ≠ s := by simpa using c2
      -- the least of those that lie in s, s itself apart
      obtain ⟨u, hu, hmin⟩ := least_pc (l.filter fun t => sub t s && t != s) (fun e => by
        have : t ∈ l.filter (fun t => sub t s && t != s) := List.mem_filter.2 ⟨ht, hc⟩
        rw [e] at this
        cases this)
      obtain ⟨hul, huc⟩ := List.mem_filter.1 hu
      obtain ⟨u1, u2⟩ := Bool.and_eq_true_iff.1 huc
      have hus : u ≠ s := by simpa using u2
      have hlt := sub_pc (ho.2 u hul) hs u1 (fun e => hus e.symm)
      have hkeep : keepMin l u = true := by
        apply List.all_eq_true.2
        intro x hx
        cases hx2 : sub x u && x != u with
        | false => rfl
        | true =>
          exfalso
          obtain ⟨x1, x3⟩ := Bool.and_eq_true_iff.1 hx2
          have hxu : x ≠ u := by simpa using x3
          have hxlt := sub_pc (ho.2 x hx) (ho.2 u hul) x1 (fun e => hxu e.symm)
          have hxs : sub x s = true := sub_trans x1 u1
          have hxne : x ≠ s := fun e => by subst e; omega
          have := hmin x (List.mem_filter.2 ⟨hx, by rw [hxs]; simpa using hxne⟩)
          omega
      have hut : u ∈ l.take k := by
        rw [hp] at hul
        rcases List.mem_append.1 hul with hm | hm
        · exact hm
        · rcases List.mem_cons.1 hm with rfl | hm
          · exact absurd rfl hus
          · have := (h4 u hm).1
            omega
      exact hno u (List.mem_filter.2 ⟨hut, hkeep⟩) u1
theorem minTo_yes {l : List Nat} (ho : Ordered l) {k s : Nat} (h : l[k]? = some s) (hn : (minTo l k).any (fun t => sub t s) = false) : minTo l (k + 1) = minTo l k ++ [s] := by
  have h1 := keepMin_at ho h
  rw [hn] at h1
  have h2 : l.take (k + 1) = l.take k ++ [s] := by rw [List.take_add_one, h]; rfl
  unfold minTo
  rw [h2, List.filter_append]
  simp [h1]
theorem minTo_no {l : List Nat} (ho : Ordered l) {k s : Nat} (h : l[k]? = some s) (hn : (minTo l k).any (fun t => sub t s) = true) : minTo l (k + 1) = minTo l k := by
  have h1 := keepMin_at ho h
  rw [hn] at h1
  have h2 : l.take (k + 1) = l.take k ++ [s] := by rw [List.take_add_one, h]; rfl
  unfold minTo
  rw [h2, List.filter_append]
  simp [h1]
theorem minTo_len (l : List Nat) (k : Nat) : (minTo l k).length ≤ k := Nat.le_trans (List.length_filter_le _ _) (List.length_take_le _ _)
theorem minTo_all (l : List Nat) (k : Nat) (h : l.length ≤ k) : minTo l k = minL l := by
  unfold minTo minL
  rw [List.take_of_length_le h]
theorem maxL_len (l : List Nat) : (maxL l).length ≤ l.length := List.length_filter_le _ _
theorem minL_len (l : List Nat) : (minL l).length ≤ l.length := List.length_filter_le _ _
theorem maxOf_len (P : Nat → Bool) : (maxOf P).length ≤ 448 := Nat.le_trans (maxL_len _) (listOf_len P)
theorem minOf_len (P : Nat → Bool) : (minOf P).length ≤ 448 := Nat.le_trans (minL_len _) (listOf_len P)
theorem maxOf_congr {P Q : Nat → Bool} (h : ∀ s, s < 64 → P s = Q s) : maxOf P = maxOf Q := by unfold maxOf; rw [listOf_congr h]
theorem minOf_congr {P Q : Nat → Bool} (h : ∀ s, s < 64 → P s = Q s) : minOf P = minOf Q := by unfold minOf; rw [listOf_congr h]
end

/- Plain laws: when a list of facets is a complex. No program is named here. -/
section
/-- The facet at place k is a set of n points and comes behind the one before it. -/
def cxFirst (n : Int) (xs : List Int) (k : Nat) : Bool := isSetB n (xs.getD k 0) && (k == 0 || beforeI (xs.getD (k - 1) 0) (xs.getD k 0))
/-- None of the facets before the place k lies in the one at k. -/
def cxNo (xs : List Int) (k : Nat) : Bool := (xs.take k).all (fun a => !sub a.toNat (xs.getD k 0).toNat)
/-- The facet at place i lies in a later one. -/
def cxRow (xs : List Int) (i : Nat) : Bool := (xs.drop (i + 1)).any (fun t => sub (xs.getD i 0).toNat t.toNat)
def isCx (n : Int) (xs : List Int) : Bool := decide (1 ≤ n ∧ n ≤ 6) && (List.range xs.length).all (fun k => cxFirst n xs k) && (List.range xs.length).all (fun k => cxNo xs k)
theorem isCx_n {n : Int} {xs : List Int} (h : ¬ (1 ≤ n ∧ n ≤ 6)) : isCx n xs = false := by unfold isCx; rw [decide_eq_false h]; rfl
theorem isCx_first {n : Int} {xs : List Int} {k : Nat} (hk : k < xs.length) (h : cxFirst n xs k = false) : isCx n xs = false := by
  have : (List.range xs.length).all (fun k => cxFirst n xs k) = false := by
    cases hc : (List.range xs.length).all (fun k => cxFirst n xs k) with
    | false => rfl
    | true =>
      have := List.all_eq_true.1 hc k (List.mem_range.2 hk)
      rw [h] at this
      cases this
  unfold isCx
  rw [this]
  simp
theorem isCx_no {n : Int} {xs : List Int} {k : Nat} (hk : k < xs.length) (h : cxNo xs k = false) : isCx n xs = false := by
  have : (List.range xs.length).all (fun k => cxNo xs k) = false := by
    cases hc : (List.range xs.length).all (fun k => cxNo xs k) with
    | false => rfl
    | true =>
      have := List.all_eq_true.1 hc k (List.mem_range.2 hk)
      rw [h] at this
      cases this
  unfold isCx
  rw [this]
  simp
theorem isCx_mk {n : Int} {xs : List Int} (hn : 1 ≤ n ∧ n ≤ 6) (h1 : ∀ k, k < xs.length → cxFirst n xs k = true) (h2 : ∀ k, k < xs.length → cxNo xs k = true) : isCx n xs = true := by
  unfold isCx
  rw [decide_eq_true hn, List.all_eq_true.2 (fun k hk => h1 k (List.mem_range.1 hk)), List.all_eq_true.2 (fun k hk => h2 k (List.mem_range.1 hk))]
  rfl
theorem isCx_inv {n : Int} {xs : List Int} (h : isCx n xs = true) : (1 ≤ n ∧ n ≤ 6) ∧ (∀ k, k < xs.length → cxFirst n xs k = true) ∧ (∀ k, k < xs.length → cxNo xs k = true) := by
  unfold isCx at h
  rw [Bool.and_eq_true, Bool.and_eq_true] at h
  exact ⟨of_decide_eq_true h.1.1, fun k hk => List.all_eq_true.1 h.1.2 k (List.mem_range.2 hk), fun k hk => List.all_eq_true.1 h.2 k (List.mem_range.2 hk)⟩
theorem getD_of {xs : List Int} {k : Nat} {x : Int} (h : xs[k]? = some x) : xs.getD k 0 = x := by simp [List.getD, h]
theorem cxFirst_set {n : Int} {xs : List Int} {k : Nat} {x : Int} (h : xs[k]? = some x) (hc : cxFirst n xs k = true) : isSetB n x = true := by
  unfold cxFirst at hc
  rw [getD_of h, Bool.and_eq_true] at hc
  exact hc.1
theorem isSetB_64 {n x : Int} (h : isSetB n x = true) : 0 ≤ x ∧ x < 64 := by
  obtain ⟨h0, h1, h2, h3⟩ := isSetB_yes h
  have := (two_pow_le h0 h1).2
  omega
theorem isCx_sets {n : Int} {xs : List Int} (h : isCx n xs = true) : ∀ x ∈ xs, 0 ≤ x ∧ x < 64 := by
  intro x hx
  obtain ⟨k, hk, he⟩ := List.mem_iff_getElem.1 hx
  exact isSetB_64 (cxFirst_set (List.getElem?_eq_some_iff.2 ⟨hk, he⟩) ((isCx_inv h).2.1 k hk))
theorem isCx_fit {n : Int} {xs : List Int} (h : isCx n xs = true) : ∀ x ∈ xs, isSetB n x = true := by
  intro x hx
  obtain ⟨k, hk, he⟩ := List.mem_iff_getElem.1 hx
  exact cxFirst_set (List.getElem?_eq_some_iff.2 ⟨hk, he⟩) ((isCx_inv h).2.1 k hk)
/-- Rows and columns say the same. -/
theorem rows_no {xs : List Int} (h : ∀ i, i < xs.length → cxRow xs i = false) (k : Nat) (hk : k < xs.length) : cxNo xs k = true := by
  unfold cxNo
  apply List.all_eq_true.2
  intro a ha
  obtain ⟨i, hi, he⟩ := List.mem_iff_getElem.1 ha
  rw [List.length_take] at hi
  have hik : i < k := by omega
  have hx : xs[i]? = some a := by
    rw [List.getElem_take] at he
    exact List.getElem?_eq_some_iff.2 ⟨by omega, he⟩
  have hr := h i (by omega)
  unfold cxRow at hr
  rw [List.any_eq_false] at hr
  have := hr (xs.getD k 0) (by
    have hm : (xs.drop (i + 1))[k - (i + 1)]? = xs[k]? := by
      rw [List.getElem?_drop]
      congr 1
      omega
    rw [List.getElem?_eq_getElem hk] at hm
    have e : xs.getD k 0 = xs[k] := getD_of (List.getElem?_eq_getElem hk)
    rw [e]
    exact List.mem_of_getElem? hm)
  rw [getD_of hx] at this
  simpa using this
theorem row_no {n : Int} {xs : List Int} {i : Nat} (hi : i < xs.length) (h : cxRow xs i = true) : isCx n xs = false := by
  unfold cxRow at h
  obtain ⟨t, ht, hs⟩ := List.any_eq_true.1 h
  obtain ⟨j, hj, he⟩ := List.mem_iff_getElem.1 ht
  rw [List.length_drop] at hj
  have hk : i + 1 + j < xs.length := by omega
  have hx : xs[i + 1 + j]? = some t := by
    rw [← he, List.getElem_drop]
    exact List.getElem?_eq_getElem hk
  refine isCx_no hk ?_
  cases hc : cxNo xs (i + 1 + j) with
  | false => rfl
  | true =>
    unfold cxNo at hc
    have := List.all_eq_true.1 hc (xs.getD i 0) (by
      have e : xs.getD i 0 = xs[i] := getD_of (List.getElem?_eq_getElem hi)
      rw [e]
      have hm : (xs.take (i + 1 + j))[i]? = some xs[i] := by
        rw [List.getElem?_take, if_pos (by omega)]
        exact List.getElem?_eq_getElem hi
      exact List.mem_of_getElem? hm)
    rw [getD_of hx, hs] at this
    cases this
theorem cxRow_last {xs : List Int} {i : Nat} (h : xs.length ≤ i + 1) : cxRow xs i = false := by
  unfold cxRow
  rw [List.drop_of_length_le h]
  rfl
end

/- Plain laws: decimal digits. No program is named here. -/
section
/-- A digit's letter. -/
def digit (n : Nat) : UInt8 := UInt8.ofNat (48 + n)
def decF : Nat → Nat → List UInt8
  | 0, _ => []
  | f + 1, k => if k = 0 then [] else decF f (k / 10) ++ [digit (k % 10)]
/-- The digits of k, none of 0. -/
def dec (k : Nat) : List UInt8 := decF k k
theorem decF_fuel : ∀ (f g k : Nat), k ≤ f → k ≤ g → decF f k = decF g k := by
  intro f
  induction f with
  | zero =>
    intro g k h _
    have : k = 0 := by omega
    subst this
    cases g <;> simp [decF]
  | succ f ih =>
    intro g k hf hg
    by_cases h0 : k = 0
    · subst h0
      cases g <;> simp [decF]
    · cases g with
      | zero => omega
      | succ g =>
        have h1 : k / 10 < k := Nat.div_lt_self (by omega) (by omega)
        simp only [decF, if_neg h0]
        rw [ih g (k / 10) (by omega) (by omega)]
theorem dec_zero : dec 0 = [] := rfl
theorem dec_pos {k : Nat} (h : 0 < k) : dec k = dec (k / 10) ++ [digit (k % 10)] := by
  unfold dec
  have h1 : k / 10 < k := Nat.div_lt_self (by omega) (by omega)
  cases k with
  | zero => omega
  | succ n =>
    rw [decF, if_neg (by omega), decF_fuel n ((n + 1) / 10) ((n + 1) / 10) (by omega) (Nat.le_refl _)]
theorem decF_len : ∀ f k, (decF f k).length ≤ f := by
  intro f
  induction f with
  | zero => intro k; simp [decF]
  | succ f ih =>
    intro k
    simp only [decF]
    split
    · simp
    · have := ih (k / 10)
      simp
      omega
theorem dec_len (k : Nat) : (dec k).length ≤ k := decF_len k k
/-- 'm' and the digits. -/
def markTxt (k : Int) : List UInt8 := if k ≤ 0 then [109, 48] else 109 :: dec k.toNat
end

/- Plain laws: numbers read and written. No program is named here. -/
section
theorem rev_ind {α : Type} {p : List α → Prop} (h0 : p []) (h1 : ∀ l c, p l → p (l ++ [c])) (l : List α) : p l := by
  have h : ∀ r : List α, p r.reverse := by
    intro r
    induction r with
    | nil => exact h0
    | cons c r ih => rw [List.reverse_cons]; exact h1 _ _ ih
  have := h l.reverse
  rwa [List.reverse_reverse] at this
def isDig (c : UInt8) : Bool := decide (48 ≤ c.toNat ∧ c.toNat ≤ 57)
/-- What digits say. -/
def valOf (l : List UInt8) : Nat := l.foldl (fun a c => 10 * a + (c.toNat - 48)) 0
theorem valOf_snoc (l : List UInt8) (c : UInt8) : valOf (l ++ [c]) = 10 * valOf l + (c.toNat - 48) := by simp [valOf]
/-- The text of a number from naught on. -/
def fmtN (k : Nat) : List UInt8 := if k = 0 then [48] else dec k
def fmtZ (n : Int) : List UInt8 := if n = 0 then [48] else if n < 0 then 45 :: dec n.natAbs else dec n.natAbs
theorem digit_of {c : UInt8} (h : isDig c = true) : digit (c.toNat - 48) = c := by
  have h1 := of_decide_eq_true h
  unfold digit
  rw [show 48 + (c.toNat - 48) = c.toNat by omega]
  simp
theorem valOf_bound : ∀ l : List UInt8, l.all isDig = true → valOf l < 10 ^ l.length := by
  refine rev_ind ?_ ?_
  · intro _; simp [valOf]
  · intro l c ih h
    rw [List.all_append, Bool.and_eq_true] at h
    have h1 := ih h.1
    have h2 : isDig c = true := by simpa using h.2
    have h3 := of_decide_eq_true h2
    rw [valOf_snoc, List.length_append, List.length_singleton, Nat.pow_succ]
    omega
theorem dec_small {k : Nat} (h0 : 0 < k) (h : k < 10) : dec k = [digit k] := by
  rw [dec_pos h0, show k / 10 = 0 by omega, dec_zero, show k % 10 = k by omega]
  rfl
/-- Without a naught ahead: read and written again. -/
theorem dec_valOf : ∀ l : List UInt8, l.all isDig = true → (∃ c r, l = c :: r ∧ c ≠ 48) → dec (valOf l) = l ∧ 0 < valOf l := by
  refine rev_ind ?_ ?_
  · rintro _ ⟨c, r, h, _⟩; cases h
  · intro l c ih h hh
    rw [List.all_append, Bool.and_eq_true] at h
    have h2 : isDig c = true := by simpa using h.2
    have h3 := of_decide_eq_true h2
    rw [valOf_snoc]
    cases l with
    | nil =>
      obtain ⟨c', r, e, hne⟩ := hh
      simp at e
      obtain ⟨rfl, rfl⟩ := e
      have hc : c.toNat ≠ 48 := fun e => hne (by
        have : UInt8.ofNat c.toNat = UInt8.ofNat 48 := by rw [e]
        simpa using this)
      rw [show valOf [] = 0 from rfl, Nat.mul_zero, Nat.zero_add, dec_small (by omega) (by omega), digit_of h2]
      exact ⟨rfl, by omega⟩
    | cons a l =>
      obtain ⟨c', r, e, hne⟩ := hh
      have ha : a = c' := by simpa using (List.cons.inj e).1
      obtain ⟨h4, h5⟩ := ih h.1 ⟨a, l, rfl, by rw [ha]; exact hne⟩
      rw [dec_pos (by omega), show (10 * valOf (a :: l) + (c.toNat - 48)) / 10 = valOf (a :: l) by omega, show (10 * valOf (a :: l) + (c.toNat - 48)) % 10 = c.toNat - 48 by omega, h4, digit_of h2]
      exact ⟨rfl, by omega⟩
theorem digit_ne {k : Nat} (h0 : 0 < k) (h : k < 10) : digit k ≠ 48 := by
  intro e
  have h1 : (digit k).toNat = (48 : UInt8).toNat := by rw [e]
  unfold digit at h1
  rw [UInt8.toNat_ofNat_of_lt' (by show 48 + k < 256; omega)] at h1
  have : (48 : UInt8).toNat = 48 := rfl
  omega
/-- What is written has no naught ahead. -/
theorem dec_head : ∀ k : Nat, 0 < k → ∃ c r, dec k = c :: r ∧ c ≠ 48 := by
  intro k
  induction k using Nat.strongRecOn with
  | _ k ih =>
    intro h0
    by_cases h : k < 10
    · exact ⟨_, [], dec_small h0 h, digit_ne h0 h⟩
    · obtain ⟨c, r, e, hne⟩ := ih (k / 10) (by omega) (by omega)
      exact ⟨c, r ++ [digit (k % 10)], by rw [dec_pos h0, e]; rfl, hne⟩
/-- Plain: no naught ahead of a digit. -/
def plainL (l : List UInt8) : Bool := decide (l.length ≤ 1) || decide (l.head? ≠ some 48)
theorem fmtN_valOf {l : List UInt8} (h : l.all isDig = true) (h0 : 0 < l.length) : fmtN (valOf l) = l ↔ plainL l = true := by
  cases l with
  | nil => simp at h0
  | cons c r =>
    by_cases hc : c = 48
    · subst hc
      cases r with
      | nil => simp [fmtN, valOf, plainL]
      | cons a r =>
        have hp : plainL (48 :: a :: r) = false := by simp [plainL]
        rw [hp]
        constructor
        · intro e
          exfalso
          unfold fmtN at e
          split at e
          · simp at e
          · rename_i hk
            obtain ⟨c, r', e2, hne⟩ := dec_head (valOf (48 :: a :: r)) (by omega)
            rw [e2] at e
            exact hne (List.cons.inj e).1
        · intro e; cases e
    · obtain ⟨h1, h2⟩ := dec_valOf (c :: r) h ⟨c, r, rfl, hc⟩
      have hp : plainL (c :: r) = true := by simp [plainL, hc]
      rw [hp]
      simp only [iff_true]
      unfold fmtN
      rw [if_neg (by omega)]
      exact h1
end

/- Walks: plainDigits, ParseNumber, ParseInt in the program. -/
section
open Go.RowKit

def pdOk (most : Nat) (l : List UInt8) : Bool := decide (1 ≤ l.length ∧ l.length ≤ most) && plainL l && l.all isDig
def pdVal (most : Nat) (l : List UInt8) : Int := if pdOk most l then (valOf l : Int) else 0
theorem pd_len {most : Nat} {l : List UInt8} (h : ¬ (1 ≤ l.length ∧ l.length ≤ most)) : pdOk most l = false := by unfold pdOk; rw [decide_eq_false h]; rfl
theorem pd_plain {most : Nat} {l : List UInt8} (h : plainL l = false) : pdOk most l = false := by unfold pdOk; rw [h]; simp
theorem pd_bad {most : Nat} {l : List UInt8} {c : UInt8} (hc : c ∈ l) (h : isDig c = false) : pdOk most l = false := by
  unfold pdOk
  rw [List.all_eq_false.2 ⟨c, hc, by simp [h]⟩]
  simp
theorem pd_mk {most : Nat} {l : List UInt8} (h : 1 ≤ l.length ∧ l.length ≤ most) (hp : plainL l = true) (ha : l.all isDig = true) : pdOk most l = true := by
  unfold pdOk
  rw [decide_eq_true h, hp, ha]
  rfl
theorem pdVal_no {most : Nat} {l : List UInt8} (h : pdOk most l = false) : pdVal most l = 0 := by simp [pdVal, h]
theorem pdVal_yes {most : Nat} {l : List UInt8} (h : pdOk most l = true) : pdVal most l = (valOf l : Int) := by simp [pdVal, h]
theorem val_small {l : List UInt8} {k : Nat} (h : l.all isDig = true) (hl : l.length ≤ k) (hk : k ≤ 12) : valOf l < 1000000000000 := by
  have h1 := valOf_bound l h
  have h2 := Nat.pow_le_pow_right (n := 10) (by omega) (show l.length ≤ 12 by omega)
  omega
end

/- Walks: ParseInt in the program. -/
section
open Go.RowKit

def piOk (l : List UInt8) : Bool := match l with | 45 :: t => pdOk 12 t && decide (valOf t ≠ 0) | l => pdOk 12 l
def piVal (l : List UInt8) : Int := match l with | 45 :: t => if pdOk 12 t && decide (valOf t ≠ 0) then -(valOf t : Int) else 0 | l => pdVal 12 l
theorem cut_eq33 (l : List UInt8) (a b : Nat) : (⟨l.toArray⟩ : ByteArray).extract a b = ⟨((l.drop a).take (b - a)).toArray⟩ := by
  have := Lib.extract_eq (⟨l.toArray⟩ : ByteArray) a b
  simpa using this
end
end Go.Proofs.YtmkacjpjcfffmabGreatDoor
