/- Texts of one kind, laid together (6 of them). -/
import Derived.Test.YtmkacjpjcfffmabGreatDoorP3
import Derived.Test.YtmkacjpjcfffmabGreatDoorP4
namespace Go.Proofs.YtmkacjpjcfffmabGreatDoor
/- Plain laws: what OrderSets, MaximalSets, MinimalSets and SubsetsOf give. No program is named here. -/
section
/-- The family of a list's sets, in order; nothing where one is no set. -/
def orderOf (xs : List Int) : List Nat := if allSets xs then listOf (inList xs) else []
def maxSets (xs : List Int) : List Nat := if allSets xs then maxOf (inList xs) else []
def minSets (xs : List Int) : List Nat := if allSets xs then minOf (inList xs) else []
theorem orderOf_yes {xs : List Int} (h : allSets xs = true) : orderOf xs = listOf (inList xs) := by simp [orderOf, h]
theorem orderOf_no {xs : List Int} (h : allSets xs = false) : orderOf xs = [] := by simp [orderOf, h]
theorem maxSets_yes {xs : List Int} (h : allSets xs = true) : maxSets xs = maxOf (inList xs) := by simp [maxSets, h]
theorem maxSets_no {xs : List Int} (h : allSets xs = false) : maxSets xs = [] := by simp [maxSets, h]
theorem minSets_yes {xs : List Int} (h : allSets xs = true) : minSets xs = minOf (inList xs) := by simp [minSets, h]
theorem minSets_no {xs : List Int} (h : allSets xs = false) : minSets xs = [] := by simp [minSets, h]
/-- The subsets of s, in order. -/
def subsetsOf (s : Int) : List Nat := if 0 ≤ s ∧ s < 64 then listOf (fun t => sub t s.toNat) else []
theorem subsetsOf_yes {m : Nat} (h : m < 64) : subsetsOf (m : Int) = listOf (fun t => sub t m) := by simp [subsetsOf]; omega
theorem subsetsOf_no {s : Int} (h : ¬ (0 ≤ s ∧ s < 64)) : subsetsOf s = [] := by simp [subsetsOf, h]
theorem orderOf_len (xs : List Int) : (orderOf xs).length ≤ 448 := by
  unfold orderOf
  split
  · exact listOf_len _
  · simp
theorem maxSets_len (xs : List Int) : (maxSets xs).length ≤ 448 := by
  unfold maxSets
  split
  · exact maxOf_len _
  · simp
theorem minSets_len (xs : List Int) : (minSets xs).length ≤ 448 := by
  unfold minSets
  split
  · exact minOf_len _
  · simp
theorem subsetsOf_len (s : Int) : (subsetsOf s).length ≤ 448 := by
  unfold subsetsOf
  split
  · exact listOf_len _
  · simp
end

/- Walks: the greatest and the least sets of a family, in the program. -/
section
open Go.RowKit

def notBit (s t : Nat) : Bool := (bits BinOp.andNot IntKind.i64 (s : Int) (t : Int) == 0) == sub s t
theorem notBit_all : ((List.range 64).all fun s => (List.range 64).all fun t => notBit s t) = true := by decide +kernel
theorem not_bit {s t : Nat} (hs : s < 64) (ht : t < 64) : (bits BinOp.andNot IntKind.i64 (s : Int) (t : Int) == 0) = sub s t := by
  have h1 := List.all_eq_true.1 (List.all_eq_true.1 notBit_all s (List.mem_range.2 hs)) t (List.mem_range.2 ht)
  unfold notBit at h1
  simpa using h1
theorem zs_get {l : List Nat} {k n : Nat} (h : l[k]? = some n) : (ints (zs l))[k]? = some (Value.int .i64 (n : Int)) := by simp [ints, zs, h]
theorem any_snoc (l : List Nat) (f : Nat → Bool) (k t : Nat) (h : l[k]? = some t) : (l.take (k + 1)).any f = ((l.take k).any f || f t) := by
  rw [take_snoc _ _ _ h, List.any_append]
  simp

theorem maximalInI (P : Nat → Bool) (w : World) : Calls Tryz.prog 72 #[.int .u64 (fam P : Int)] w fun e w' => RetI 3 w (zs (maxOf P)) e w' := by
  have Hmax : Hid (maxOf P = maxL (listOf P)) := rfl
  have Hord := hide (listOf_ordered P)
  have hll := listOf_len P
  have Hset := hide (setsInI P)
  generalize hl : listOf P = l at Hmax Hord hll Hset
  clear hl
  generalize hmx : maxOf P = mx at Hmax
  clear hmx
  go_enter Tryz.func72, Tryz.ntmps72
  go_wp2_with fail
  refine (Hset.out _).mono ?_
  rintro e w1 ⟨v, rfl, ov, b1⟩
  rcases own_form ov with ⟨rfl, hx⟩ | ⟨g, cap, hv, hg, hgl, hcap⟩
  · have hl0 : l = [] := by simpa [ints, zs] using hx
    subst hl0
    have H : Hid (mx = []) := by rw [Hmax.out]; rfl
    go_wp2
    refine wp_loop_rounds 1 ?_
    rw [rounds_succ]
    go_wp2
    go_ret
    exact ⟨_, rfl, by rw [H.out]; exact own_nil _ _, b1⟩
  · have hlen : (ints (zs l)).length = l.length := by simp [ints, zs]
    rw [hlen] at hv hcap
    subst hv
    have Hc : Hid (∀ (k n : Nat), l[k]? = some n → w1.cell? ⟨g, k, none⟩ = some (.int .i64 (n : Int))) := fun k n hk => (own_cell ov (by rw [hlen]) (zs_get hk)).1
    clear ov hlen
    go_wp2
    go_loopw [4, 14] (fun o i wr => ∃ k : Nat, k ≤ l.length ∧ i = .int .i64 k ∧ OwnV 3 wr w1.heap.size o (ints (zs (maxTo l k))) ∧ Below w1.heap.size w1 wr) (fun _ i _ => l.length - (intOf i).toNat)
    case atStart => exact ⟨0, by omega, rfl, own_nil _ _, Below.refl _ _⟩
    case round =>
      obtain ⟨k, hk, rfl, hown, hb⟩ := hrel
      by_cases hlt : k < l.length
      · obtain ⟨s, hs⟩ : ∃ s, l[k]? = some s := ⟨_, List.getElem?_eq_getElem hlt⟩
        have hs64 := Hord.out.2 s (List.mem_of_getElem? hs)
        have hcs : wr.cell? ⟨g, k, none⟩ = some (.int .i64 (s : Int)) := (hb.cell (p := ⟨g, k, none⟩) hgl).trans (Hc.out k s hs)
        have Hs := hide hs
        have hml := maxTo_len l k
        have hoL : (zs (maxTo l k)).length < 17179869184 := by simp; omega
        clear hs
        obtain ⟨wo, rfl⟩ : ∃ wo : World, wo = wr := ⟨_, rfl⟩
        by_cases hlast : k + 1 = l.length
        · have Hy := hide (maxTo_yes Hord.out Hs.out (by rw [List.drop_of_length_le (by omega)]; rfl))
          have hz : ((l.length : Int) - ((k : Int) + 1)) = 0 := by omega
          have hlast2 : l.length ≤ k + 1 := by omega
          have Hlast := hide hlast
          clear hlast
          by_cases hcap2 : cap = k + 1
          · subst hcap2
            go_wp2
            refine wp_loop_rounds 1 ?_
            rw [rounds_succ]
            go_wp2_with (at_builtin; refine wpList_appI hown s Tryz.underlying24 infoI rfl _ _ rfl rfl rfl hoL hb.size ?_; intro v' w2 hown1 hb1 _)
            go_roundw
            case rel => exact ⟨k + 1, by omega, by go_num, by rw [Hy.out, zs_snoc]; exact hown1, hb.trans hb1⟩
            case measure => simp [intOf]; omega
          · go_wp2
            refine wp_loop_rounds 1 ?_
            rw [rounds_succ]
            go_wp2_with (at_builtin; refine wpList_appI hown s Tryz.underlying24 infoI rfl _ _ rfl rfl rfl hoL hb.size ?_; intro v' w2 hown1 hb1 _)
            go_roundw
            case rel => exact ⟨k + 1, by omega, by go_num, by rw [Hy.out, zs_snoc]; exact hown1, hb.trans hb1⟩
            case measure => simp [intOf]; omega
        · have hlt3 : k + 1 < l.length := by omega
          have hcap3 : ¬ cap = k + 1 := by omega
          have Hr : Hid (∀ (i t : Nat), (l.drop (k + 1))[i]? = some t → wo.cell? ⟨g, k + 1 + i, none⟩ = some (.int .i64 (t : Int)) ∧ t < 64) := by
            intro i t hi
            rw [List.getElem?_drop] at hi
            exact ⟨(hb.cell (p := ⟨g, k + 1 + i, none⟩) hgl).trans (Hc.out _ _ hi), Hord.out.2 t (List.mem_of_getElem? hi)⟩
          have Hrl := hide (List.length_drop (i := k + 1) (l := l))
          have Hb := hide hb
          have Hown := hide hown
          clear hb hown hlast
          go_wp2
          go_loop [7, 24] (fun ins j => ∃ i : Nat, i ≤ l.length - (k + 1) ∧ ins = .bool false ∧ j = .int .i64 i ∧ Hid (((l.drop (k + 1)).take i).any (sub s) = false)) (fun _ j => l.length - (k + 1) - (intOf j).toNat)
          case atStart => exact ⟨0, by omega, rfl, rfl, by simp [Hid]⟩
          case round =>
            obtain ⟨i, hi, rfl, rfl, hno⟩ := hrel
            by_cases hil : i < l.length - (k + 1)
            · obtain ⟨t, ht⟩ : ∃ t, (l.drop (k + 1))[i]? = some t := ⟨_, List.getElem?_eq_getElem (by rw [Hrl.out]; omega)⟩
              obtain ⟨hct, ht64⟩ := Hr.out i t ht
              have hnb := not_bit hs64 ht64
              have Han := hide (any_snoc _ (sub s) i t ht)
              clear ht
              cases hsub : sub s t
              · rw [hsub] at hnb
                have Hn2 : Hid (((l.drop (k + 1)).take (i + 1)).any (sub s) = false) := by show _ = _; rw [Han.out, hno.out, hsub]; rfl
                clear hsub
                go_wp2
                go_round
                case rel => exact ⟨i + 1, by omega, rfl, by go_num, Hn2⟩
                case measure => simp [intOf]; omega
              · rw [hsub] at hnb
                have Hin : Hid ((l.drop (k + 1)).any (sub s) = true) := by
                  show _ = _
                  rw [← List.take_append_drop (i + 1) (l.drop (k + 1)), List.any_append, Han.out, hsub]
                  simp
                have Hno2 := hide (maxTo_no Hord.out Hs.out Hin.out)
                clear hsub
                go_wp2
                go_roundw
                case rel => exact ⟨k + 1, by omega, by go_num, by rw [Hno2.out]; exact Hown.out, Hb.out⟩
                case measure => simp [intOf]; omega
            · have Hno3 : Hid ((l.drop (k + 1)).any (sub s) = false) := by
                have := hno.out
                rwa [take_all _ _ (by rw [Hrl.out]; omega)] at this
              have Hy := hide (maxTo_yes Hord.out Hs.out Hno3.out)
              have hown := Hown.out
              have hb := Hb.out
              go_wp2_with (at_builtin; refine wpList_appI hown s Tryz.underlying24 infoI rfl _ _ rfl rfl rfl hoL hb.size ?_; intro v' w2 hown1 hb1 _)
              go_roundw
              case rel => exact ⟨k + 1, by omega, by go_num, by rw [Hy.out, zs_snoc]; exact hown1, hb.trans hb1⟩
              case measure => simp [intOf]; omega
      · have Hall := hide (maxTo_all l k (by omega))
        go_wp2
        go_ret
        exact ⟨_, rfl, by rw [Hmax.out, ← Hall.out]; exact own_mono hown b1.size, below_step b1 hb b1.size⟩

theorem zs_at {l : List Nat} {k : Nat} {x : Int} (h : (zs l)[k]? = some x) : ∃ n : Nat, x = (n : Int) ∧ l[k]? = some n := by
  simp only [zs, List.getElem?_map, Option.map_eq_some_iff] at h
  obtain ⟨n, hn, rfl⟩ := h
  exact ⟨n, rfl, hn⟩
theorem zs_len (l : List Nat) : (zs l).length = l.length := List.length_map _

theorem famList_eq (xs : List Int) : famList xs = fam (inList xs) := rfl
end

/- Walks: families of sets, in the reference. -/
section
open Go.RowKit

/-- 64 flags. -/
def flags (f : Nat → Bool) : List Value := (List.range 64).map (fun s => Value.bool (f s))
theorem flags_len (f : Nat → Bool) : (flags f).length = 64 := by simp [flags]
theorem flags_get (f : Nat → Bool) {s : Nat} (h : s < 64) : (flags f)[s]? = some (.bool (f s)) := by simp [flags, h]
theorem flags_set (f : Nat → Bool) (m : Nat) : (flags f).set m (.bool true) = flags (fun s => f s || s == m) := by
  apply List.ext_getElem?
  intro i
  by_cases hi : i < 64
  · rw [List.getElem?_set]
    by_cases hm : m = i
    · subst hm
      rw [if_pos rfl, if_pos (by rw [flags_len]; exact hi), flags_get _ hi]
      simp
    · rw [if_neg hm, flags_get _ hi, flags_get _ hi]
      have : (i == m) = false := by simp; omega
      simp [this]
  · rw [List.getElem?_eq_none (by rw [List.length_set, flags_len]; omega), List.getElem?_eq_none (by rw [flags_len]; omega)]
theorem flags_congr {f g : Nat → Bool} (h : ∀ s, s < 64 → f s = g s) : flags f = flags g := by
  unfold flags
  apply List.map_congr_left
  intro s hs
  rw [h s (List.mem_range.1 hs)]
/-- 64 times false. -/
def falses : Array Value := Array.replicate 64 (.bool false)
theorem falses_eq : falses.toList = flags (fun _ => false) := by kernel_rfl

theorem l2OrderS (v : Value) (xs : List Int) (w : World) (h : IntsAt w w.heap.size v xs) (hl : xs.length ≤ 1073741824) (hall : allSets xs = true) :
    Calls Tryz.prog 67 #[v] w fun e w' => RetI 3 w (zs (listOf (inList xs))) e w' := by
  have hmk : ∀ w, (Instr.makeSlice 86 (.int .i64 64) (.int .i64 64)).run Tryz.prog w = .ok (.slice (some ⟨w.heap.size, 0, none⟩) 64 64) (w.alloc (.cells falses 4)) := fun _ => by kernel_rfl
  have hown0 : OwnV 4 (w.alloc (.cells falses 4)) w.heap.size (.slice (some ⟨w.heap.size, 0, none⟩) 64 64) (flags (fun _ => false)) := by
    have := World.ownsRow_lit (base := w.heap.size) (e := 4) (size := 1) w falses 64 (Nat.le_refl _) (by decide) (by decide +kernel)
    rw [falses_eq] at this
    unfold OwnV
    rw [flags_len]
    exact this
  have Hall := hide hall
  clear hall
  have h' := (ReadsV.alloc' h (Nat.le_refl _) (.cells falses 4))
  obtain ⟨A, c, rfl, hc, he⟩ := form_ h
  have He := hide he
  clear h he h'
  have Hown0 := hide hown0
  clear hown0
  go_enter Tryz.func67, Tryz.ntmps67
  go_wp2
  go_loopw [4] (fun i wr => ∃ k : Nat, k ≤ xs.length ∧ i = .int .i64 k ∧ OwnV 4 wr w.heap.size (.slice (some ⟨w.heap.size, 0, none⟩) 64 64) (flags (inList (xs.take k))) ∧ Below w.heap.size w wr) (fun i _ => xs.length - (intOf i).toNat)
  case atStart => exact ⟨0, by omega, rfl, by
    rw [show flags (inList (xs.take 0)) = flags (fun _ => false) from flags_congr (fun s _ => by simp [inList])]
    exact Hown0.out, below_alloc _ _⟩
  case round =>
    obtain ⟨k, hk, rfl, hown, hb⟩ := hrel
    by_cases hlt : k < xs.length
    · obtain ⟨b, o, x, rfl, hbb, hx, hcx0⟩ := He.out k hlt
      obtain ⟨hx1, hx2⟩ := allSets_at Hall.out (List.mem_of_getElem? hx)
      obtain ⟨m, rfl⟩ := Int.eq_ofNat_of_zero_le hx1
      have hm : m < 64 := by omega
      have hcx : wr.cell? ⟨b, o + k, none⟩ = some (.int .i64 (m : Int)) := (hb.cell (p := ⟨b, o + k, none⟩) hbb).trans hcx0
      have Hs := hide (take_snoc _ _ _ hx)
      obtain ⟨hc1, hf1⟩ := own_cell hown (by rw [flags_len]) (flags_get (inList (xs.take k)) hm)
      have hset := own_set hown (by rw [flags_len]) m (.bool true)
      rw [flags_set] at hset
      have Hset : Hid (OwnV 4 (wr.setCell ⟨w.heap.size, m, none⟩ (.bool true)) w.heap.size (.slice (some ⟨w.heap.size, 0, none⟩) 64 64) (flags (inList (xs.take (k + 1))))) := by
        rw [flags_congr (g := fun s => inList (xs.take k) s || s == m) (fun s _ => by rw [Hs.out, inList_snoc])]
        exact hset
      have Hb : Hid (Below w.heap.size w (wr.setCell ⟨w.heap.size, m, none⟩ (.bool true))) := hb.setCell (by exact Nat.le_refl _) _
      clear hset hown hb hx hx1 hx2 hcx0
      go_wp2
      go_roundw
      case rel => exact ⟨k + 1, by omega, by go_num, Hset.out, Hb.out⟩
      case measure => simp [intOf]; omega
    · have hk2 : xs.take k = xs := take_all _ _ (by omega)
      rw [hk2] at hown
      clear hk2
      obtain ⟨w2, rfl⟩ : ∃ w2 : World, w2 = wr := ⟨_, rfl⟩
      have hlw : w.heap.size < w2.heap.size := (own_block hown _ rfl).2
      have Hflag : Hid (∀ s, s < 64 → w2.cell? ⟨w.heap.size, s, none⟩ = some (.bool (inList xs s))) := fun s hs => (own_cell hown (by rw [flags_len]) (flags_get (inList xs) hs)).1
      have Hb := hide hb
      clear hown hb
      generalize hP : inList xs = P at Hflag
      have HP := hide hP
      clear hP
      go_wp2
      go_loopw [5, 6] (fun v i wr => ∃ k : Nat, k ≤ 7 ∧ i = .int .i64 k ∧ OwnV 3 wr w2.heap.size v (ints (zs (lows P k))) ∧ Below w2.heap.size w2 wr) (fun _ i _ => 7 - (intOf i).toNat)
      case atStart => exact ⟨0, by omega, rfl, own_empty _ _, below_alloc _ _⟩
      case round =>
        obtain ⟨k, hk, rfl, hown, hb⟩ := hrel
        have hll := lows_len P k
        by_cases hlt : k < 7
        · obtain ⟨wo, rfl⟩ : ∃ wo : World, wo = wr := ⟨_, rfl⟩
          have hk6 : decide ((k : Int) ≤ 6) = true := by simp; omega
          go_wp2
          go_loopw [5, 7] (fun v i wr => ∃ s : Nat, s ≤ 64 ∧ i = .int .i64 s ∧ OwnV 3 wr w2.heap.size v (ints (zs (lows P k ++ layTo P k s))) ∧ Below w2.heap.size w2 wr) (fun _ i _ => 64 - (intOf i).toNat)
          case atStart => exact ⟨0, by omega, rfl, by simpa [layTo] using hown, hb⟩
          case round =>
            clear hown hb
            obtain ⟨s, hs, rfl, hown, hb⟩ := hrel
            have hll2 := layTo_len P k s
            by_cases hlt2 : s < 64
            · have hfl : wr.cell? ⟨w.heap.size, s, none⟩ = some (.bool (P s)) := (hb.cell (p := ⟨w.heap.size, s, none⟩) hlw).trans (Hflag.out s hlt2)
              by_cases hps : P s = true ∧ pc s = k
              · obtain ⟨hp1, hp2⟩ := hps
                have Hl := hide (layTo_yes hp1 hp2)
                have hlen : (zs (lows P k ++ layTo P k s)).length < 17179869184 := by simp; omega
                rw [hp1] at hfl
                subst hp2
                clear hp1
                go_wp2_with (first | (go_at_call 76; refine (l2SizeS _ _ (by omega)).mono ?_; rw [Int.toNat_natCast]; rintro e w' ⟨rfl, rfl⟩) | (at_builtin; refine wpList_appI hown s Tryz.underlying24 infoI rfl _ _ rfl rfl rfl hlen hb.size ?_; intro v' w1 hown1 hb1 _))
                go_roundw
                case rel => exact ⟨s + 1, by omega, by go_num, by rw [Hl.out, ← List.append_assoc, zs_snoc]; exact hown1, hb.trans hb1⟩
                case measure => simp [intOf]; omega
              · have Hl := hide (layTo_no hps)
                cases hp1 : P s
                · rw [hp1] at hfl
                  clear hps hp1
                  go_wp2
                  go_roundw
                  case rel => exact ⟨s + 1, by omega, by go_num, by rw [Hl.out]; exact hown, hb⟩
                  case measure => simp [intOf]; omega
                · rw [hp1] at hfl
                  have hne : ((pc s : Int) == (k : Int)) = false := by
                    have : ¬ pc s = k := fun e => hps ⟨hp1, e⟩
                    simp
                    omega
                  clear hps hp1
                  go_wp2_with (go_at_call 76; refine (l2SizeS _ _ (by omega)).mono ?_; rw [Int.toNat_natCast]; rintro e w' ⟨rfl, rfl⟩)
                  go_roundw
                  case rel => exact ⟨s + 1, by omega, by go_num, by rw [Hl.out]; exact hown, hb⟩
                  case measure => simp [intOf]; omega
            · obtain rfl : s = 64 := by omega
              go_wp2
              go_roundw
              case rel => exact ⟨k + 1, by omega, by go_num, by rw [lows_succ, ← layTo_all]; exact hown, hb⟩
              case measure => simp [intOf]; omega
        · obtain rfl : k = 7 := by omega
          go_wp2
          go_ret
          exact ⟨_, rfl, by rw [HP.out]; exact own_mono hown Hb.out.size, below_step Hb.out hb Hb.out.size⟩

/-- What l2Extreme gives. -/
def extOf (P : Nat → Bool) (g : Bool) : List Nat := if g then maxOf P else minOf P
def keepB (l : List Nat) (g : Bool) (s : Nat) : Bool := if g then keepMax l s else keepMin l s
/-- t speaks against s. -/
def against (g : Bool) (s t : Nat) : Bool := t != s && (if g then sub s t else sub t s)
theorem keepB_eq (l : List Nat) (g : Bool) (s : Nat) : keepB l g s = !(l.any (against g s)) := by
  cases g
  · rw [Bool.eq_iff_iff]
    simp only [keepB, keepMin, against, Bool.false_eq_true, if_false, List.all_eq_true, Bool.not_eq_true', List.any_eq_false, Bool.and_eq_true, not_and, Bool.and_eq_false_iff]
    constructor
    · intro h t ht h1 h2
      rcases h t ht with h3 | h3
      · rw [h2] at h3; cases h3
      · rw [h1] at h3; cases h3
    · intro h t ht
      cases h1 : sub t s
      · exact .inl rfl
      · right
        cases h2 : t != s
        · rfl
        · exact absurd h1 (h t ht h2)
  · rw [Bool.eq_iff_iff]
    simp only [keepB, keepMax, against, if_true, List.all_eq_true, Bool.not_eq_true', List.any_eq_false, Bool.and_eq_true, not_and, Bool.and_eq_false_iff]
    constructor
    · intro h t ht h1 h2
      rcases h t ht with h3 | h3
      · rw [h2] at h3; cases h3
      · rw [h1] at h3; cases h3
    · intro h t ht
      cases h1 : sub s t
      · exact .inl rfl
      · right
        cases h2 : t != s
        · rfl
        · exact absurd h1 (h t ht h2)
def extTo (l : List Nat) (g : Bool) (k : Nat) : List Nat := (l.take k).filter (keepB l g)
theorem extTo_yes {l : List Nat} {g : Bool} {k s : Nat} (h : l[k]? = some s) (hn : l.any (against g s) = false) : extTo l g (k + 1) = extTo l g k ++ [s] := by
  unfold extTo
  rw [take_snoc _ _ _ h, List.filter_append]
  simp [keepB_eq, hn]
theorem extTo_no {l : List Nat} {g : Bool} {k s : Nat} (h : l[k]? = some s) (hn : l.any (against g s) = true) : extTo l g (k + 1) = extTo l g k := by
  unfold extTo
  rw [take_snoc _ _ _ h, List.filter_append]
  simp [keepB_eq, hn]
theorem extTo_len (l : List Nat) (g : Bool) (k : Nat) : (extTo l g k).length ≤ k := Nat.le_trans (List.length_filter_le _ _) (List.length_take_le _ _)
theorem extTo_all (P : Nat → Bool) (g : Bool) (k : Nat) (h : (listOf P).length ≤ k) : extTo (listOf P) g k = extOf P g := by
  unfold extTo
  rw [List.take_of_length_le h]
  cases g <;> rfl
theorem any_snoc7 (l : List Nat) (f : Nat → Bool) (k t : Nat) (h : l[k]? = some t) : (l.take (k + 1)).any f = ((l.take k).any f || f t) := by
  rw [take_snoc _ _ _ h, List.any_append]
  simp
def andBit (s t : Nat) : Bool := ((bits BinOp.and IntKind.i64 (s : Int) (t : Int) == (s : Int)) == sub s t) && ((bits BinOp.and IntKind.i64 (s : Int) (t : Int) == (t : Int)) == sub t s)
theorem andBit_all : ((List.range 64).all fun s => (List.range 64).all fun t => andBit s t) = true := by decide +kernel
theorem and_bit {s t : Nat} (hs : s < 64) (ht : t < 64) : (bits BinOp.and IntKind.i64 (s : Int) (t : Int) == (s : Int)) = sub s t ∧ (bits BinOp.and IntKind.i64 (s : Int) (t : Int) == (t : Int)) = sub t s := by
  have h1 := List.all_eq_true.1 (List.all_eq_true.1 andBit_all s (List.mem_range.2 hs)) t (List.mem_range.2 ht)
  unfold andBit at h1
  simpa using h1
theorem zs_at7 {l : List Nat} {k : Nat} {x : Int} (h : (zs l)[k]? = some x) : ∃ n : Nat, x = (n : Int) ∧ l[k]? = some n := by
  simp only [zs, List.getElem?_map, Option.map_eq_some_iff] at h
  obtain ⟨n, hn, rfl⟩ := h
  exact ⟨n, rfl, hn⟩

theorem l2ExtremeS (g : Bool) (v : Value) (xs : List Int) (w : World) (h : IntsAt w w.heap.size v xs) (hl : xs.length ≤ 1073741824) (hall : allSets xs = true) :
    Calls Tryz.prog 73 #[v, .bool g] w fun e w' => RetI 3 w (zs (extOf (inList xs) g)) e w' := by
  have Hall := hide (extTo_all (inList xs) g)
  have Hord := hide (listOf_ordered (inList xs))
  have hll := listOf_len (inList xs)
  have Hset := hide (l2OrderS v xs w h hl hall)
  clear h hall
  generalize hlo : listOf (inList xs) = l at Hall Hord hll Hset
  clear hlo
  generalize hmx : extOf (inList xs) g = mx at Hall
  clear hmx
  go_enter Tryz.func73, Tryz.ntmps73
  go_wp2_with fail
  refine Hset.out.mono ?_
  rintro e w1 ⟨v1, rfl, ov, b1⟩
  obtain ⟨A, cap, hv, hcap, hx⟩ := form_ (own_reads ov)
  rw [show (zs l).length = l.length from List.length_map _] at hv hcap hx
  subst hv
  have Hc : Hid (∀ (k : Nat), k < l.length → ∃ g o n, A = some ⟨g, o, none⟩ ∧ g < w1.heap.size ∧ l[k]? = some n ∧ w1.cell? ⟨g, o + k, none⟩ = some (.int .i64 (n : Int)) ∧ n < 64) := by
    intro k hk
    obtain ⟨b, o, x, hA, hb, hxx, hcell⟩ := hx k hk
    obtain ⟨m, rfl, hm⟩ := zs_at7 hxx
    exact ⟨b, o, m, hA, hb, hm, hcell, Hord.out.2 m (List.mem_of_getElem? hm)⟩
  clear ov hx
  go_wp2
  go_loopw [6, 7] (fun o i wr => ∃ k : Nat, k ≤ l.length ∧ i = .int .i64 k ∧ OwnV 3 wr w1.heap.size o (ints (zs (extTo l g k))) ∧ Below w1.heap.size w1 wr) (fun _ i _ => l.length - (intOf i).toNat)
  case atStart => exact ⟨0, by omega, rfl, own_empty _ _, below_alloc _ _⟩
  case round =>
    obtain ⟨k, hk, rfl, hown, hb⟩ := hrel
    by_cases hlt : k < l.length
    · obtain ⟨gb, og, s, rfl, hgl, hs, hcs0, hs64⟩ := Hc.out k hlt
      have hcs : wr.cell? ⟨gb, og + k, none⟩ = some (.int .i64 (s : Int)) := (hb.cell (p := ⟨gb, og + k, none⟩) hgl).trans hcs0
      have Hs := hide hs
      have hml := extTo_len l g k
      have hoL : (zs (extTo l g k)).length < 17179869184 := by simp; omega
      have Hr : Hid (∀ (i : Nat), i < l.length → ∃ t, l[i]? = some t ∧ wr.cell? ⟨gb, og + i, none⟩ = some (.int .i64 (t : Int)) ∧ t < 64) := by
        intro i hi
        obtain ⟨gb', og', t, hA, hgl', ht, hct, ht64⟩ := Hc.out i hi
        cases hA
        exact ⟨t, ht, (hb.cell (p := ⟨gb, og + i, none⟩) hgl).trans hct, ht64⟩
      clear hs hcs0
      obtain ⟨wo, rfl⟩ : ∃ wo : World, wo = wr := ⟨_, rfl⟩
      have Hb := hide hb
      have Hown := hide hown
      clear hb hown
      go_wp2
      go_loop [8, 9, 10, 11] (fun ins j a b => ∃ (i : Nat) (f : Bool), i ≤ l.length ∧ ins = .bool f ∧ j = .int .i64 i ∧ Hid (f = !((l.take i).any (against g s)))) (fun _ j _ _ => l.length - (intOf j).toNat)
      case atStart => exact ⟨0, true, by omega, rfl, rfl, by simp [Hid]⟩
      case round =>
        obtain ⟨i, f, hi, rfl, rfl, hno⟩ := hrel
        by_cases hil : i < l.length
        · obtain ⟨t, ht, hct, ht64⟩ := Hr.out i hil
          obtain ⟨hn1, hn2⟩ := and_bit hs64 ht64
          have Han := hide (any_snoc7 _ (against g s) i t ht)
          clear ht
          have hne : ((s : Int) != (t : Int)) = (t != s) := by
            by_cases e : t = s
            · subst e; simp
            · have : ¬ s = t := fun h => e h.symm
              have h1 : ((s : Int) != (t : Int)) = true := by simp; omega
              rw [h1]
              simp [e]
          cases hag : against g s t
          · have Hn2 : Hid (f = !((l.take (i + 1)).any (against g s))) := by show _ = _; rw [Han.out, hag, Bool.or_false]; exact hno.out
            unfold against at hag
            cases g
            · cases h1 : t != s
              · rw [h1] at hne
                clear hag h1
                go_wp2
                go_round
                case rel => exact ⟨i + 1, f, by omega, rfl, by go_num, Hn2⟩
                case measure => simp [intOf]; omega
              · rw [h1] at hne
                have h2 : sub t s = false := by simpa [h1] using hag
                rw [h2] at hn2
                clear hag h1 h2
                go_wp2
                go_round
                case rel => exact ⟨i + 1, f, by omega, rfl, by go_num, Hn2⟩
                case measure => simp [intOf]; omega
            · cases h1 : t != s
              · rw [h1] at hne
                clear hag h1
                go_wp2
                go_round
                case rel => exact ⟨i + 1, f, by omega, rfl, by go_num, Hn2⟩
                case measure => simp [intOf]; omega
              · rw [h1] at hne
                have h2 : sub s t = false := by simpa [h1] using hag
                rw [h2] at hn1
                clear hag h1 h2
                go_wp2
                go_round
                case rel => exact ⟨i + 1, f, by omega, rfl, by go_num, Hn2⟩
                case measure => simp [intOf]; omega
          · have Hn2 : Hid (false = !((l.take (i + 1)).any (against g s))) := by show _ = _; rw [Han.out, hag, Bool.or_true]; rfl
            unfold against at hag
            have h1 : (t != s) = true := by
              cases h1 : t != s
              · rw [h1] at hag; simp at hag
              · rfl
            rw [h1] at hne
            cases g
            · have h2 : sub t s = true := by simpa [h1] using hag
              rw [h2] at hn2
              clear hag h1 h2
              go_wp2
              go_round
              case rel => exact ⟨i + 1, false, by omega, rfl, by go_num, Hn2⟩
              case measure => simp [intOf]; omega
            · have h2 : sub s t = true := by simpa [h1] using hag
              rw [h2] at hn1
              clear hag h1 h2
              go_wp2
              go_round
              case rel => exact ⟨i + 1, false, by omega, rfl, by go_num, Hn2⟩
              case measure => simp [intOf]; omega
        · have hno3 := hno.out
          rw [take_all _ _ (show l.length ≤ i by omega)] at hno3
          cases f
          · have Hx := hide (extTo_no Hs.out (show l.any (against g s) = true by cases h : l.any (against g s); (rw [h] at hno3; cases hno3); rfl))
            clear hno3
            go_wp2
            go_roundw
            case rel => exact ⟨k + 1, by omega, by go_num, by rw [Hx.out]; exact Hown.out, Hb.out⟩
            case measure => simp [intOf]; omega
          · have Hx := hide (extTo_yes Hs.out (show l.any (against g s) = false by cases h : l.any (against g s); rfl; (rw [h] at hno3; cases hno3)))
            have hown := Hown.out
            have hb := Hb.out
            clear hno3
            go_wp2_with (at_builtin; refine wpList_appI hown s Tryz.underlying24 infoI rfl _ _ rfl rfl rfl hoL hb.size ?_; intro v' w2 hown1 hb1 _)
            go_roundw
            case rel => exact ⟨k + 1, by omega, by go_num, by rw [Hx.out, zs_snoc]; exact hown1, hb.trans hb1⟩
            case measure => simp [intOf]; omega
    · have Ha := hide (Hall.out k (by omega))
      go_wp2
      go_ret
      exact ⟨_, rfl, by rw [← Ha.out]; exact own_mono hown b1.size, below_step b1 hb b1.size⟩
end

/- Walks: complexes made: complexOf, l3Make, FullComplex. -/
section
open Go.RowKit

/-- The call returns a complex whose facets are its own, and a bool. -/
def RetCB (e0 : TypeId) (w : World) (n : Int) (xs : List Int) (b : Bool) (e : Ending) (w' : World) : Prop := ∃ v, e = .returned (.tuple #[.agg #[.int .i64 n, v], .bool b]) ∧ OwnV e0 w' w.heap.size v (ints xs) ∧ Below w.heap.size w w'

theorem complexOfI (n : Int) (P : Nat → Bool) (w : World) : Calls Tryz.prog 45 #[.int .i64 n, .int .u64 (fam P : Int)] w fun e w' => RetC 3 w n (zs (maxOf P)) e w' := by
  go_enter Tryz.func45, Tryz.ntmps45
  go_wp2_with fail
  refine (maximalInI P _).mono ?_
  rintro e w1 ⟨v', rfl, hown, hb⟩
  obtain ⟨A', c', rfl⟩ := own_shape hown
  obtain ⟨ho, hfar⟩ := own_far (C := w.heap.size + 1) (D := w.heap.size) hown (by (try simp only [World.size_alloc]); omega) (by (try simp only [World.size_alloc]); omega)
  have Ho := hide ho
  have Hfar := hide hfar
  have Hb : Hid (Below w.heap.size w w1) := (below_alloc w _).trans (hb.mono (by (try simp only [World.size_alloc]); omega))
  obtain ⟨hc, hf⟩ := bcell hb
  have hz := hb.size
  simp only [World.size_alloc] at hz
  clear hown hb ho hfar
  go_wp2
  refine bodyPost_ret (v := .agg #[.int .i64 n, .slice A' (zs (maxOf P)).length c']) (by simp [results, Tryz.results45, go_sem, hc]) rfl ?_
  refine ⟨_, rfl, ?_, ?_⟩
  · exact own_setNe (own_setNe Ho.out (fun k hk => by have := Hfar.out k hk; omega) _ _) (fun k hk => by have := Hfar.out k hk; omega) _ _
  · have hbw := Hb.out
    go_grown

theorem l3MakeS (n : Int) (v : Value) (xs : List Int) (w : World) (h : IntsAt w w.heap.size v xs) (hl : xs.length ≤ 1073741824) (hall : allSets xs = true) : Calls Tryz.prog 48 #[.int .i64 n, v] w fun e w' => RetC 3 w n (zs (maxOf (inList xs))) e w' := by
  have ha := ReadsV.alloc h (.cells #[.int .i64 0, .slice none 0 0] 26)
  go_enter Tryz.func48, Tryz.ntmps48
  go_wp2_with fail
  refine (l2ExtremeS true v xs _ ha hl hall).mono ?_
  rintro e w1 ⟨v', rfl, hown, hb⟩
  obtain ⟨A', c', rfl⟩ := own_shape hown
  obtain ⟨ho, hfar⟩ := own_far (C := w.heap.size + 1) (D := w.heap.size) hown (by (try simp only [World.size_alloc]); omega) (by (try simp only [World.size_alloc]); omega)
  have Ho := hide ho
  have Hfar := hide hfar
  have Hb : Hid (Below w.heap.size w w1) := (below_alloc w _).trans (hb.mono (by (try simp only [World.size_alloc]); omega))
  obtain ⟨hc, hf⟩ := bcell hb
  have hz := hb.size
  simp only [World.size_alloc] at hz
  clear hown hb ho hfar h ha
  go_wp2
  refine bodyPost_ret (v := .agg #[.int .i64 n, .slice A' (zs (maxOf (inList xs))).length c']) (by simp [results, Tryz.results48, go_sem, hc, extOf]) rfl ?_
  refine ⟨_, rfl, ?_, ?_⟩
  · exact own_setNe (own_setNe Ho.out (fun k hk => by have := Hfar.out k hk; omega) _ _) (fun k hk => by have := Hfar.out k hk; omega) _ _
  · have hbw := Hb.out
    go_grown

theorem own_lit1 (e : TypeId) (w : World) (y : Value) : OwnV e (w.alloc (.cells #[y] e)) w.heap.size (.slice (some ⟨w.heap.size, 0, none⟩) 1 1) [y] := World.ownsRow_lit (size := 1) w #[y] 1 (Nat.le_refl _) (by unfold maxLen; omega) rfl
theorem retCB_zero (w : World) (T : TypeId) (e0 : TypeId) : RetCB e0 w 0 [] false (.returned (.tuple #[.agg #[.int .i64 0, .slice none 0 0], .bool false])) (w.alloc (.cells #[.int .i64 0, .slice none 0 0] T)) :=
  ⟨_, rfl, own_nil _ _, below_alloc _ _⟩
/-- What FullComplex gives. -/
def fullX (n : Int) : Int := wrap64 (wrap64 (2 ^ n.toNat) - 1)
def fullN (n : Int) : Int := if 1 ≤ n ∧ n ≤ 6 then n else 0
def fullXs (n : Int) : List Int := if 1 ≤ n ∧ n ≤ 6 then [fullX n] else []
def fullB (n : Int) : Bool := decide (1 ≤ n ∧ n ≤ 6)
theorem full_len (n : Int) : (fullXs n).length ≤ 1 := by unfold fullXs; split <;> simp
theorem retCB_full {n : Int} (h : 1 ≤ n ∧ n ≤ 6) (w : World) (T : TypeId) : RetCB 3 w (fullN n) (fullXs n) (fullB n) (.returned (.tuple #[.agg #[.int .i64 n, .slice (some ⟨w.heap.size + 1, 0, none⟩) 1 1], .bool true])) ((w.alloc (.cells #[.int .i64 n, .slice (some ⟨w.heap.size + 1, 0, none⟩) 1 1] T)).alloc (.cells #[.int .i64 (fullX n)] 3)) := by
  unfold fullN fullXs fullB
  rw [if_pos h, if_pos h, decide_eq_true h]
  refine ⟨_, rfl, ?_, ?_⟩
  · have ho := own_lit1 3 (w.alloc (.cells #[.int .i64 n, .slice (some ⟨w.heap.size + 1, 0, none⟩) 1 1] T)) (.int .i64 (fullX n))
    rw [World.size_alloc] at ho
    exact own_mono ho (by omega)
  · exact (below_alloc w _).alloc (by (try simp only [World.size_alloc]); omega) _
theorem retCB_noFull {n : Int} (h : ¬ (1 ≤ n ∧ n ≤ 6)) (w : World) (T : TypeId) : RetCB 3 w (fullN n) (fullXs n) (fullB n) (.returned (.tuple #[.agg #[.int .i64 0, .slice none 0 0], .bool false])) (w.alloc (.cells #[.int .i64 0, .slice none 0 0] T)) := by
  unfold fullN fullXs fullB
  rw [if_neg h, if_neg h, decide_eq_false h]
  exact retCB_zero _ _ _
theorem fullComplexI (n : Int) (w : World) : Calls Tryz.prog 15 #[.int .i64 n] w fun e w' => RetCB 3 w (fullN n) (fullXs n) (fullB n) e w' := by
  by_cases hn : 1 ≤ n ∧ n ≤ 6
  · have Hn := hide hn
    obtain ⟨h1, h2⟩ := hn
    go_enter Tryz.func15, Tryz.ntmps15
    go_wp2
    refine bodyPost_ret (v := .tuple #[.agg #[.int .i64 n, .slice (some ⟨w.heap.size + 1, 0, none⟩) 1 1], .bool true]) (by simp [results, Tryz.results15, go_sem]) rfl ?_
    exact retCB_full Hn.out w _
  · have Hn := hide hn
    rcases Int.lt_or_le n 1 with h | h
    · clear hn
      go_enter Tryz.func15, Tryz.ntmps15
      go_wp2
      refine bodyPost_ret (v := .tuple #[.agg #[.int .i64 0, .slice none 0 0], .bool false]) (by simp [results, Tryz.results15, go_sem]) rfl ?_
      exact retCB_noFull Hn.out w _
    · have h2 : 6 < n := by omega
      clear hn
      go_enter Tryz.func15, Tryz.ntmps15
      go_wp2
      refine bodyPost_ret (v := .tuple #[.agg #[.int .i64 0, .slice none 0 0], .bool false]) (by simp [results, Tryz.results15, go_sem]) rfl ?_
      exact retCB_noFull Hn.out w _
theorem fullComplexS (n : Int) (w : World) : Calls Tryz.prog 16 #[.int .i64 n] w fun e w' => RetCB 3 w (fullN n) (fullXs n) (fullB n) e w' := by
  by_cases hn : 1 ≤ n ∧ n ≤ 6
  · have Hn := hide hn
    have Hin : Hid (inB n 1 6 = true) := inB_mk hn
    obtain ⟨h1, h2⟩ := hn
    go_enter Tryz.func16, Tryz.ntmps16
    go_wp2_with (go_at_call 47; refine (l1InS _ _ _ _).mono ?_; rw [Hin.out]; rintro e wx ⟨rfl, rfl⟩)
    refine bodyPost_ret (v := .tuple #[.agg #[.int .i64 n, .slice (some ⟨w.heap.size + 1, 0, none⟩) 1 1], .bool true]) (by simp [results, Tryz.results16, go_sem]) rfl ?_
    exact retCB_full Hn.out w _
  · have Hn := hide hn
    have Hin : Hid (inB n 1 6 = false) := inB_no hn
    clear hn
    go_enter Tryz.func16, Tryz.ntmps16
    go_wp2_with (go_at_call 47; refine (l1InS _ _ _ _).mono ?_; rw [Hin.out]; rintro e wx ⟨rfl, rfl⟩)
    refine bodyPost_ret (v := .tuple #[.agg #[.int .i64 0, .slice none 0 0], .bool false]) (by simp [results, Tryz.results16, go_sem]) rfl ?_
    exact retCB_noFull Hn.out w _
end

/- A result of a struct: the block that the function made for it. -/
section
open Go.RowKit

/-- The block r is a struct's of two cells, to be written. -/
def Res (r : Nat) (W : World) : Prop := (∃ u0 u1, W.cell? ⟨r, 0, none⟩ = some u0 ∧ W.cell? ⟨r, 1, none⟩ = some u1) ∧ W.frozen? ⟨r, 0, none⟩ = false ∧ W.frozen? ⟨r, 1, none⟩ = false
theorem Res.lt {r : Nat} {W : World} (h : Res r W) : r < W.heap.size := by
  obtain ⟨⟨u0, u1, h0, _⟩, _⟩ := h
  exact World.block_lt_of_cell? _ _ h0
theorem Res.to {r : Nat} {W W' : World} (h : Res r W) (k : Below W.heap.size W W') : Res r W' := by
  have hl := h.lt
  obtain ⟨⟨u0, u1, h0, h1⟩, f0, f1⟩ := h
  obtain ⟨hc, hf⟩ := bcell k
  exact ⟨⟨u0, u1, (hc r 0 hl).trans h0, (hc r 1 hl).trans h1⟩, (hf r 0 hl).trans f0, (hf r 1 hl).trans f1⟩
theorem Res.store {r : Nat} {W : World} (h : Res r W) (x y : Value) : Res r ((W.setCell ⟨r, 0, none⟩ x).setCell ⟨r, 1, none⟩ y) := by
  obtain ⟨⟨u0, u1, h0, h1⟩, f0, f1⟩ := h
  refine ⟨⟨x, y, ?_, ?_⟩, ?_, ?_⟩ <;> simp [go_sem, h0, h1, f0, f1]
theorem AtC.store {b r : Nat} {W : World} {x y : Value} (h : AtC W b x y) (hne : b ≠ r) (x' y' : Value) : AtC ((W.setCell ⟨r, 0, none⟩ x').setCell ⟨r, 1, none⟩ y') b x y := by
  obtain ⟨h0, h1⟩ := h
  constructor
  · simp [go_sem, h0]
  · simp [go_sem, h1]
theorem below_store {B r : Nat} {w W : World} (h : Below B w W) (hr : B ≤ r) (x y : Value) : Below B w ((W.setCell ⟨r, 0, none⟩ x).setCell ⟨r, 1, none⟩ y) := (h.setCell (by exact hr) x).setCell (by exact hr) y
/-- The block of the result, made behind the box of the parameter. -/
theorem boxRes (w : World) (T : TypeId) : ∃ W, w.alloc (.cells #[.int .i64 0, .slice none 0 0] T) = W ∧ AtC W w.heap.size (.int .i64 0) (.slice none 0 0) ∧ Res w.heap.size W ∧ Below w.heap.size w W ∧ W.heap.size = w.heap.size + 1 := by
  refine ⟨_, rfl, ⟨World.cell?_alloc_at _ _ _ _ rfl, World.cell?_alloc_at _ _ _ _ rfl⟩, ⟨⟨_, _, World.cell?_alloc_at _ _ _ _ rfl, World.cell?_alloc_at _ _ _ _ rfl⟩, ?_, ?_⟩, below_alloc _ _, by simp⟩
  · simp [go_sem]
  · simp [go_sem]
/-- What a function gives that makes a complex where 'ok' holds. -/
def cbN (ok : Bool) (n : Int) : Int := if ok then n else 0
def cbXs (ok : Bool) (l : List Nat) : List Int := if ok then zs l else []
theorem cbXs_len (ok : Bool) {l : List Nat} (h : l.length ≤ 448) : (cbXs ok l).length ≤ 1073741824 := by
  unfold cbXs
  split
  · show (List.map _ l).length ≤ _
    rw [List.length_map]; omega
  · simp
theorem retCB_yes {w w' : World} {ok : Bool} {n : Int} {l : List Nat} (h : ok = true) {v : Value} (ho : OwnV 3 w' w.heap.size v (ints (zs l))) (hb : Below w.heap.size w w') : RetCB 3 w (cbN ok n) (cbXs ok l) ok (.returned (.tuple #[.agg #[.int .i64 n, v], .bool true])) w' := by
  subst h
  exact ⟨_, rfl, ho, hb⟩
theorem retCB_no {w w' : World} {ok : Bool} {n : Int} {l : List Nat} (h : ok = false) (hb : Below w.heap.size w w') : RetCB 3 w (cbN ok n) (cbXs ok l) ok (.returned (.tuple #[.agg #[.int .i64 0, .slice none 0 0], .bool false])) w' := by
  subst h
  exact ⟨_, rfl, own_nil _ _, hb⟩
end

/- Walks: the draws of complexes: l1Max, l1Min, l3Size. -/
section
open Go.RowKit

theorem Res.grown64 {r : Nat} {W W' : World} {row : Option Nat} (h : Res r W) (g : W.grownBy W' row) (hne : row ≠ some r) : Res r W' := by
  have hb := g.block r h.lt (fun e => hne e.symm)
  obtain ⟨⟨u0, u1, h0, h1⟩, f0, f1⟩ := h
  have hc : ∀ o, W'.cell? ⟨r, o, none⟩ = W.cell? ⟨r, o, none⟩ := fun o => by simp only [World.cell?, hb]
  have hf : ∀ o, W'.frozen? ⟨r, o, none⟩ = W.frozen? ⟨r, o, none⟩ := fun o => by simp only [World.frozen?, hb]
  exact ⟨⟨u0, u1, (hc 0).trans h0, (hc 1).trans h1⟩, (hf 0).trans f0, (hf 1).trans f1⟩
/-- A draw under way: the cursor p, the result's block r. -/
structure Dr (W : World) (r p : Nat) (v : Value) (L : List UInt8) (a : World) : Prop where
  cur : CurAt a p v L
  gr : W.grownBy a (some p)
  res : Res r a
  far : W.heap.size ≤ r
  old : p < W.heap.size
theorem Dr.draw {W : World} {r p : Nat} {v : Value} {L : List UInt8} {a b : World} (h : Dr W r p v L a) (c : CurAt b p v L) (g : a.grownBy b (some p)) : Dr W r p v L b :=
  ⟨c, grown_trans h.gr g, h.res.grown64 g (fun e => by have := Option.some.inj e; have := h.far; have := h.old; omega), h.far, h.old⟩
theorem Dr.next {W : World} {r p : Nat} {v : Value} {L : List UInt8} {a b : World} (h : Dr W r p v L a) (k : Below a.heap.size a b) : Dr W r p v L b :=
  ⟨h.cur.to k, grown_step h.gr k, h.res.to k, h.far, h.old⟩
theorem Dr.low {W : World} {r p B : Nat} {v : Value} {L : List UInt8} {a b : World} (h : Dr W r p v L a) (k : Below B a b) (hr : r < B) : Dr W r p v L b := by
  have h1 := h.far
  have h2 := h.old
  refine ⟨CurAt.low h.cur (by omega) k, grown_of_below h.gr (k.mono (by omega)), ?_, h.far, h.old⟩
  obtain ⟨⟨u0, u1, c0, c1⟩, f0, f1⟩ := h.res
  obtain ⟨hc, hf⟩ := bcell k
  exact ⟨⟨u0, u1, (hc r 0 hr).trans c0, (hc r 1 hr).trans c1⟩, (hf r 0 hr).trans f0, (hf r 1 hr).trans f1⟩
theorem Dr.start {W : World} {p : Nat} {v : Value} {L : List UInt8} (h : CurAt W p v L) (T : TypeId) : Dr W W.heap.size p v L (W.alloc (.cells #[.int .i64 0, .slice none 0 0] T)) := by
  obtain ⟨X, rfl, _, h2, _, _⟩ := boxRes W T
  exact ⟨h.to (below_alloc _ _), World.grownBy_alloc _ _ _, h2, Nat.le_refl _, h.lt⟩
/-- Few facets, small numbers. -/
def Few (N : Nat) (n : Int) (xs : List Int) : Prop := -100 ≤ n ∧ n ≤ 100 ∧ xs.length ≤ N ∧ ∀ x ∈ xs, -100 ≤ x ∧ x ≤ 100
/-- The call returns some complex of its own, and has moved the cursor p. -/
def RetD (N : Nat) (W : World) (p : Nat) (v : Value) (L : List UInt8) (e : Ending) (W' : World) : Prop :=
  ∃ (n : Int) (u : Value) (xs : List Int), Few N n xs ∧ e = .returned (.agg #[.int .i64 n, u]) ∧ OwnV 3 W' W.heap.size u (ints xs) ∧ CurAt W' p v L ∧ W.grownBy W' (some p)
/-- The result is stored and returned. -/
theorem Dr.done {W : World} {r p : Nat} {v u : Value} {L : List UInt8} {a : World} {xs : List Int} (h : Dr W r p v L a) (ho : OwnV 3 a (r + 1) u (ints xs)) {N : Nat} {n : Int} (hf : Few N n xs) (x y : Value) :
    RetD N W p v L (.returned (.agg #[.int .i64 n, u])) ((a.setCell ⟨r, 0, none⟩ x).setCell ⟨r, 1, none⟩ y) := by
  have h1 := h.far
  have h2 := h.old
  have hb : Below W.heap.size a ((a.setCell ⟨r, 0, none⟩ x).setCell ⟨r, 1, none⟩ y) := below_store (Below.refl _ _) h1 x y
  refine ⟨n, u, xs, hf, rfl, ?_, CurAt.low h.cur h2 hb, grown_of_below h.gr hb⟩
  exact own_mono (own_setBelow (own_setBelow ho (Nat.lt_succ_self r) _ _) (Nat.lt_succ_self r) _ _) (by omega)
end
end Go.Proofs.YtmkacjpjcfffmabGreatDoor
