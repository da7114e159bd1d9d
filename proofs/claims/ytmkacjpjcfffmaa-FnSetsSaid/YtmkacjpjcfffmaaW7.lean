/- Walks: families of sets, in the reference. -/
import Derived.Test.YtmkacjpjcfffmaaW4
import Derived.Test.YtmkacjpjcfffmaaMathExt
namespace Go.Proofs.Ytmkacjpjcfffmaa
open Go.RowKit

theorem l2FineS (v : Value) (xs : List Int) (w : World) (h : IntsAt w w.heap.size v xs) (hl : xs.length ≤ 1073741824) :
    Calls Try.prog 146 #[v] w fun e w' => e = .returned (.bool (allSets xs)) ∧ w = w' := by
  obtain ⟨A, c, rfl, hc, he⟩ := form_ h
  have He := hide he
  clear h he
  go_enter Try.func146, Try.ntmps146
  go_wp2
  go_loop [3] (fun i => ∃ k : Nat, k ≤ xs.length ∧ i = .int .i64 k ∧ Hid (allSets (xs.take k) = true)) (fun i => xs.length - (intOf i).toNat)
  case atStart => exact ⟨0, by omega, rfl, rfl⟩
  case round =>
    obtain ⟨k, hk, rfl, ha⟩ := hrel
    by_cases hlt : k < xs.length
    · obtain ⟨b, o, x, rfl, hb, hx, hcx⟩ := He.out k hlt
      have Hs := hide (take_snoc _ _ _ hx)
      clear hx
      by_cases hx2 : 0 ≤ x ∧ x < 64
      · have h1 : inB x 0 63 = true := inB_mk ⟨hx2.1, by omega⟩
        have Ha : Hid (allSets (xs.take (k + 1)) = true) := by
          show _ = _
          rw [Hs.out, allSets_snoc, ha.out, decide_eq_true hx2]
          rfl
        clear hx2
        go_wp2_with (go_at_call 120; refine (l1InS _ _ _ _).mono ?_; rintro e w' ⟨rfl, rfl⟩)
        go_round
        case rel => exact ⟨k + 1, by omega, by go_num, Ha⟩
        case measure => simp [intOf]; omega
      · have h1 : inB x 0 63 = false := inB_no (fun h => hx2 ⟨h.1, by omega⟩)
        have H := hide (allSets_take_false (xs := xs) (k := k + 1) (by rw [Hs.out, allSets_snoc, decide_eq_false hx2]; simp))
        clear hx2
        go_wp2_with (go_at_call 120; refine (l1InS _ _ _ _).mono ?_; rintro e w' ⟨rfl, rfl⟩)
        go_ret
        exact ⟨ret_bool H.out.symm, rfl⟩
    · have Hk := hide (show xs.take k = xs from take_all _ _ (by omega))
      go_wp2
      go_ret
      refine ⟨ret_bool ?_, rfl⟩
      have := ha.out
      rw [Hk.out] at this
      exact this.symm

/-- 64 flags. -/
def flags (f : Nat → Bool) : List Value := (List.range 64).map (fun s => Value.bool (f s))
theorem flags_len (f : Nat → Bool) : (flags f).length = 64 := by simp [flags]
theorem flags_get (f : Nat → Bool) {s : Nat} (h : s < 64) : (flags f)[s]? = some (.bool (f s)) := by simp [flags, h]
theorem flags_set (f : Nat → Bool) (m : Nat) : (flags f).set m (.bool true) = flags (fun s => f s || s == m) := by
  apply List.ext_getElem?
  intro i
  by_cases hi : i < 64
  · rw [List.getElem?_set]
    by_cases hm : m = i
    · subst hm
      rw [if_pos rfl, if_pos (by rw [flags_len]; exact hi), flags_get _ hi]
      simp
    · rw [if_neg hm, flags_get _ hi, flags_get _ hi]
      have : (i == m) = false := by simp; omega
      simp [this]
  · rw [List.getElem?_eq_none (by rw [List.length_set, flags_len]; omega), List.getElem?_eq_none (by rw [flags_len]; omega)]
theorem flags_congr {f g : Nat → Bool} (h : ∀ s, s < 64 → f s = g s) : flags f = flags g := by
  unfold flags
  apply List.map_congr_left
  intro s hs
  rw [h s (List.mem_range.1 hs)]
/-- 64 times false. -/
def falses : Array Value := Array.replicate 64 (.bool false)
theorem falses_eq : falses.toList = flags (fun _ => false) := by kernel_rfl

theorem l2OrderS (v : Value) (xs : List Int) (w : World) (h : IntsAt w w.heap.size v xs) (hl : xs.length ≤ 1073741824) (hall : allSets xs = true) :
    Calls Try.prog 123 #[v] w fun e w' => RetI 3 w (zs (listOf (inList xs))) e w' := by
  have hmk : ∀ w, (Instr.makeSlice 116 (.int .i64 64) (.int .i64 64)).run Try.prog w = .ok (.slice (some ⟨w.heap.size, 0, none⟩) 64 64) (w.alloc (.cells falses 4)) := fun _ => by kernel_rfl
  have hown0 : OwnV 4 (w.alloc (.cells falses 4)) w.heap.size (.slice (some ⟨w.heap.size, 0, none⟩) 64 64) (flags (fun _ => false)) := by
    have := World.ownsRow_lit (base := w.heap.size) (e := 4) (size := 1) w falses 64 (Nat.le_refl _) (by decide) (by decide +kernel)
    rw [falses_eq] at this
    unfold OwnV
    rw [flags_len]
    exact this
  have Hall := hide hall
  clear hall
  have h' := (ReadsV.alloc' h (Nat.le_refl _) (.cells falses 4))
  obtain ⟨A, c, rfl, hc, he⟩ := form_ h
  have He := hide he
  clear h he h'
  have Hown0 := hide hown0
  clear hown0
  go_enter Try.func123, Try.ntmps123
  go_wp2
  go_loopw [4] (fun i wr => ∃ k : Nat, k ≤ xs.length ∧ i = .int .i64 k ∧ OwnV 4 wr w.heap.size (.slice (some ⟨w.heap.size, 0, none⟩) 64 64) (flags (inList (xs.take k))) ∧ Below w.heap.size w wr) (fun i _ => xs.length - (intOf i).toNat)
  case atStart => exact ⟨0, by omega, rfl, by
    rw [show flags (inList (xs.take 0)) = flags (fun _ => false) from flags_congr (fun s _ => by simp [inList])]
    exact Hown0.out, below_alloc _ _⟩
  case round =>
    obtain ⟨k, hk, rfl, hown, hb⟩ := hrel
    by_cases hlt : k < xs.length
    · obtain ⟨b, o, x, rfl, hbb, hx, hcx0⟩ := He.out k hlt
      obtain ⟨hx1, hx2⟩ := allSets_at Hall.out (List.mem_of_getElem? hx)
      obtain ⟨m, rfl⟩ := Int.eq_ofNat_of_zero_le hx1
      have hm : m < 64 := by omega
      have hcx : wr.cell? ⟨b, o + k, none⟩ = some (.int .i64 (m : Int)) := (hb.cell (p := ⟨b, o + k, none⟩) hbb).trans hcx0
      have Hs := hide (take_snoc _ _ _ hx)
      obtain ⟨hc1, hf1⟩ := own_cell hown (by rw [flags_len]) (flags_get (inList (xs.take k)) hm)
      have hset := own_set hown (by rw [flags_len]) m (.bool true)
      rw [flags_set] at hset
      have Hset : Hid (OwnV 4 (wr.setCell ⟨w.heap.size, m, none⟩ (.bool true)) w.heap.size (.slice (some ⟨w.heap.size, 0, none⟩) 64 64) (flags (inList (xs.take (k + 1))))) := by
        rw [flags_congr (g := fun s => inList (xs.take k) s || s == m) (fun s _ => by rw [Hs.out, inList_snoc])]
        exact hset
      have Hb : Hid (Below w.heap.size w (wr.setCell ⟨w.heap.size, m, none⟩ (.bool true))) := hb.setCell (by exact Nat.le_refl _) _
      clear hset hown hb hx hx1 hx2 hcx0
      go_wp2
      go_roundw
      case rel => exact ⟨k + 1, by omega, by go_num, Hset.out, Hb.out⟩
      case measure => simp [intOf]; omega
    · have hk2 : xs.take k = xs := take_all _ _ (by omega)
      rw [hk2] at hown
      clear hk2
      obtain ⟨w2, rfl⟩ : ∃ w2 : World, w2 = wr := ⟨_, rfl⟩
      have hlw : w.heap.size < w2.heap.size := (own_block hown _ rfl).2
      have Hflag : Hid (∀ s, s < 64 → w2.cell? ⟨w.heap.size, s, none⟩ = some (.bool (inList xs s))) := fun s hs => (own_cell hown (by rw [flags_len]) (flags_get (inList xs) hs)).1
      have Hb := hide hb
      clear hown hb
      generalize hP : inList xs = P at Hflag
      have HP := hide hP
      clear hP
      go_wp2
      go_loopw [5, 6] (fun v i wr => ∃ k : Nat, k ≤ 7 ∧ i = .int .i64 k ∧ OwnV 3 wr w2.heap.size v (ints (zs (lows P k))) ∧ Below w2.heap.size w2 wr) (fun _ i _ => 7 - (intOf i).toNat)
      case atStart => exact ⟨0, by omega, rfl, own_empty _ _, below_alloc _ _⟩
      case round =>
        obtain ⟨k, hk, rfl, hown, hb⟩ := hrel
        have hll := lows_len P k
        by_cases hlt : k < 7
        · obtain ⟨wo, rfl⟩ : ∃ wo : World, wo = wr := ⟨_, rfl⟩
          have hk6 : decide ((k : Int) ≤ 6) = true := by simp; omega
          go_wp2
          go_loopw [5, 7] (fun v i wr => ∃ s : Nat, s ≤ 64 ∧ i = .int .i64 s ∧ OwnV 3 wr w2.heap.size v (ints (zs (lows P k ++ layTo P k s))) ∧ Below w2.heap.size w2 wr) (fun _ i _ => 64 - (intOf i).toNat)
          case atStart => exact ⟨0, by omega, rfl, by simpa [layTo] using hown, hb⟩
          case round =>
            clear hown hb
            obtain ⟨s, hs, rfl, hown, hb⟩ := hrel
            have hll2 := layTo_len P k s
            by_cases hlt2 : s < 64
            · have hfl : wr.cell? ⟨w.heap.size, s, none⟩ = some (.bool (P s)) := (hb.cell (p := ⟨w.heap.size, s, none⟩) hlw).trans (Hflag.out s hlt2)
              by_cases hps : P s = true ∧ pc s = k
              · obtain ⟨hp1, hp2⟩ := hps
                have Hl := hide (layTo_yes hp1 hp2)
                have hlen : (zs (lows P k ++ layTo P k s)).length < 17179869184 := by simp; omega
                rw [hp1] at hfl
                subst hp2
                clear hp1
                go_wp2_with (first | (go_at_call 117; refine (l2SizeS _ _ (by omega)).mono ?_; rw [Int.toNat_natCast]; rintro e w' ⟨rfl, rfl⟩) | (at_builtin; refine wpList_appI hown s Try.underlying36 infoI rfl _ _ rfl rfl rfl hlen hb.size ?_; intro v' w1 hown1 hb1 _))
                go_roundw
                case rel => exact ⟨s + 1, by omega, by go_num, by rw [Hl.out, ← List.append_assoc, zs_snoc]; exact hown1, hb.trans hb1⟩
                case measure => simp [intOf]; omega
              · have Hl := hide (layTo_no hps)
                cases hp1 : P s
                · rw [hp1] at hfl
                  clear hps hp1
                  go_wp2
                  go_roundw
                  case rel => exact ⟨s + 1, by omega, by go_num, by rw [Hl.out]; exact hown, hb⟩
                  case measure => simp [intOf]; omega
                · rw [hp1] at hfl
                  have hne : ((pc s : Int) == (k : Int)) = false := by
                    have : ¬ pc s = k := fun e => hps ⟨hp1, e⟩
                    simp
                    omega
                  clear hps hp1
                  go_wp2_with (go_at_call 117; refine (l2SizeS _ _ (by omega)).mono ?_; rw [Int.toNat_natCast]; rintro e w' ⟨rfl, rfl⟩)
                  go_roundw
                  case rel => exact ⟨s + 1, by omega, by go_num, by rw [Hl.out]; exact hown, hb⟩
                  case measure => simp [intOf]; omega
            · obtain rfl : s = 64 := by omega
              go_wp2
              go_roundw
              case rel => exact ⟨k + 1, by omega, by go_num, by rw [lows_succ, ← layTo_all]; exact hown, hb⟩
              case measure => simp [intOf]; omega
        · obtain rfl : k = 7 := by omega
          go_wp2
          go_ret
          exact ⟨_, rfl, by rw [HP.out]; exact own_mono hown Hb.out.size, below_step Hb.out hb Hb.out.size⟩

/-- What l2Extreme gives. -/
def extOf (P : Nat → Bool) (g : Bool) : List Nat := if g then maxOf P else minOf P
def keepB (l : List Nat) (g : Bool) (s : Nat) : Bool := if g then keepMax l s else keepMin l s
/-- t speaks against s. -/
def against (g : Bool) (s t : Nat) : Bool := t != s && (if g then sub s t else sub t s)
theorem keepB_eq (l : List Nat) (g : Bool) (s : Nat) : keepB l g s = !(l.any (against g s)) := by
  cases g
  · rw [Bool.eq_iff_iff]
    simp only [keepB, keepMin, against, Bool.false_eq_true, if_false, List.all_eq_true, Bool.not_eq_true', List.any_eq_false, Bool.and_eq_true, not_and, Bool.and_eq_false_iff]
    constructor
    · intro h t ht h1 h2
      rcases h t ht with h3 | h3
      · rw [h2] at h3; cases h3
      · rw [h1] at h3; cases h3
    · intro h t ht
      cases h1 : sub t s
      · exact .inl rfl
      · right
        cases h2 : t != s
        · rfl
        · exact absurd h1 (h t ht h2)
  · rw [Bool.eq_iff_iff]
    simp only [keepB, keepMax, against, if_true, List.all_eq_true, Bool.not_eq_true', List.any_eq_false, Bool.and_eq_true, not_and, Bool.and_eq_false_iff]
    constructor
    · intro h t ht h1 h2
      rcases h t ht with h3 | h3
      · rw [h2] at h3; cases h3
      · rw [h1] at h3; cases h3
    · intro h t ht
      cases h1 : sub s t
      · exact .inl rfl
      · right
        cases h2 : t != s
        · rfl
        · exact absurd h1 (h t ht h2)
def extTo (l : List Nat) (g : Bool) (k : Nat) : List Nat := (l.take k).filter (keepB l g)
theorem extTo_yes {l : List Nat} {g : Bool} {k s : Nat} (h : l[k]? = some s) (hn : l.any (against g s) = false) : extTo l g (k + 1) = extTo l g k ++ [s] := by
  unfold extTo
  rw [take_snoc _ _ _ h, List.filter_append]
  simp [keepB_eq, hn]
theorem extTo_no {l : List Nat} {g : Bool} {k s : Nat} (h : l[k]? = some s) (hn : l.any (against g s) = true) : extTo l g (k + 1) = extTo l g k := by
  unfold extTo
  rw [take_snoc _ _ _ h, List.filter_append]
  simp [keepB_eq, hn]
theorem extTo_len (l : List Nat) (g : Bool) (k : Nat) : (extTo l g k).length ≤ k := Nat.le_trans (List.length_filter_le _ _) (List.length_take_le _ _)
theorem extTo_all (P : Nat → Bool) (g : Bool) (k : Nat) (h : (listOf P).length ≤ k) : extTo (listOf P) g k = extOf P g := by
  unfold extTo
  rw [List.take_of_length_le h]
  cases g <;> rfl
theorem any_snoc7 (l : List Nat) (f : Nat → Bool) (k t : Nat) (h : l[k]? = some t) : (l.take (k + 1)).any f = ((l.take k).any f || f t) := by
  rw [take_snoc _ _ _ h, List.any_append]
  simp
def andBit (s t : Nat) : Bool := ((bits BinOp.and IntKind.i64 (s : Int) (t : Int) == (s : Int)) == sub s t) && ((bits BinOp.and IntKind.i64 (s : Int) (t : Int) == (t : Int)) == sub t s)
theorem andBit_all : ((List.range 64).all fun s => (List.range 64).all fun t => andBit s t) = true := by decide +kernel
theorem and_bit {s t : Nat} (hs : s < 64) (ht : t < 64) : (bits BinOp.and IntKind.i64 (s : Int) (t : Int) == (s : Int)) = sub s t ∧ (bits BinOp.and IntKind.i64 (s : Int) (t : Int) == (t : Int)) = sub t s := by
  have h1 := List.all_eq_true.1 (List.all_eq_true.1 andBit_all s (List.mem_range.2 hs)) t (List.mem_range.2 ht)
  unfold andBit at h1
  simpa using h1
theorem zs_at7 {l : List Nat} {k : Nat} {x : Int} (h : (zs l)[k]? = some x) : ∃ n : Nat, x = (n : Int) ∧ l[k]? = some n := by
  simp only [zs, List.getElem?_map, Option.map_eq_some_iff] at h
  obtain ⟨n, hn, rfl⟩ := h
  exact ⟨n, rfl, hn⟩

theorem l2ExtremeS (g : Bool) (v : Value) (xs : List Int) (w : World) (h : IntsAt w w.heap.size v xs) (hl : xs.length ≤ 1073741824) (hall : allSets xs = true) :
    Calls Try.prog 147 #[v, .bool g] w fun e w' => RetI 3 w (zs (extOf (inList xs) g)) e w' := by
  have Hall := hide (extTo_all (inList xs) g)
  have Hord := hide (listOf_ordered (inList xs))
  have hll := listOf_len (inList xs)
  have Hset := hide (l2OrderS v xs w h hl hall)
  clear h hall
  generalize hlo : listOf (inList xs) = l at Hall Hord hll Hset
  clear hlo
  generalize hmx : extOf (inList xs) g = mx at Hall
  clear hmx
  go_enter Try.func147, Try.ntmps147
  go_wp2_with fail
  refine Hset.out.mono ?_
  rintro e w1 ⟨v1, rfl, ov, b1⟩
  obtain ⟨A, cap, hv, hcap, hx⟩ := form_ (own_reads ov)
  rw [show (zs l).length = l.length from List.length_map _] at hv hcap hx
  subst hv
  have Hc : Hid (∀ (k : Nat), k < l.length → ∃ g o n, A = some ⟨g, o, none⟩ ∧ g < w1.heap.size ∧ l[k]? = some n ∧ w1.cell? ⟨g, o + k, none⟩ = some (.int .i64 (n : Int)) ∧ n < 64) := by
    intro k hk
    obtain ⟨b, o, x, hA, hb, hxx, hcell⟩ := hx k hk
    obtain ⟨m, rfl, hm⟩ := zs_at7 hxx
    exact ⟨b, o, m, hA, hb, hm, hcell, Hord.out.2 m (List.mem_of_getElem? hm)⟩
  clear ov hx
  go_wp2
  go_loopw [6, 7] (fun o i wr => ∃ k : Nat, k ≤ l.length ∧ i = .int .i64 k ∧ OwnV 3 wr w1.heap.size o (ints (zs (extTo l g k))) ∧ Below w1.heap.size w1 wr) (fun _ i _ => l.length - (intOf i).toNat)
  case atStart => exact ⟨0, by omega, rfl, own_empty _ _, below_alloc _ _⟩
  case round =>
    obtain ⟨k, hk, rfl, hown, hb⟩ := hrel
    by_cases hlt : k < l.length
    · obtain ⟨gb, og, s, rfl, hgl, hs, hcs0, hs64⟩ := Hc.out k hlt
      have hcs : wr.cell? ⟨gb, og + k, none⟩ = some (.int .i64 (s : Int)) := (hb.cell (p := ⟨gb, og + k, none⟩) hgl).trans hcs0
      have Hs := hide hs
      have hml := extTo_len l g k
      have hoL : (zs (extTo l g k)).length < 17179869184 := by simp; omega
      have Hr : Hid (∀ (i : Nat), i < l.length → ∃ t, l[i]? = some t ∧ wr.cell? ⟨gb, og + i, none⟩ = some (.int .i64 (t : Int)) ∧ t < 64) := by
        intro i hi
        obtain ⟨gb', og', t, hA, hgl', ht, hct, ht64⟩ := Hc.out i hi
        cases hA
        exact ⟨t, ht, (hb.cell (p := ⟨gb, og + i, none⟩) hgl).trans hct, ht64⟩
      clear hs hcs0
      obtain ⟨wo, rfl⟩ : ∃ wo : World, wo = wr := ⟨_, rfl⟩
      have Hb := hide hb
      have Hown := hide hown
      clear hb hown
      go_wp2
      go_loop [8, 9, 10, 11] (fun ins j a b => ∃ (i : Nat) (f : Bool), i ≤ l.length ∧ ins = .bool f ∧ j = .int .i64 i ∧ Hid (f = !((l.take i).any (against g s)))) (fun _ j _ _ => l.length - (intOf j).toNat)
      case atStart => exact ⟨0, true, by omega, rfl, rfl, by simp [Hid]⟩
      case round =>
        obtain ⟨i, f, hi, rfl, rfl, hno⟩ := hrel
        by_cases hil : i < l.length
        · obtain ⟨t, ht, hct, ht64⟩ := Hr.out i hil
          obtain ⟨hn1, hn2⟩ := and_bit hs64 ht64
          have Han := hide (any_snoc7 _ (against g s) i t ht)
          clear ht
          have hne : ((s : Int) != (t : Int)) = (t != s) := by
            by_cases e : t = s
            · subst e; simp
            · have : ¬ s = t := fun h => e h.symm
              have h1 : ((s : Int) != (t : Int)) = true := by simp; omega
              rw [h1]
              simp [e]
          cases hag : against g s t
          · have Hn2 : Hid (f = !((l.take (i + 1)).any (against g s))) := by show _ = _; rw [Han.out, hag, Bool.or_false]; exact hno.out
            unfold against at hag
            cases g
            · cases h1 : t != s
              · rw [h1] at hne
                clear hag h1
                go_wp2
                go_round
                case rel => exact ⟨i + 1, f, by omega, rfl, by go_num, Hn2⟩
                case measure => simp [intOf]; omega
              · rw [h1] at hne
                have h2 : sub t s = false := by simpa [h1] using hag
                rw [h2] at hn2
                clear hag h1 h2
                go_wp2
                go_round
                case rel => exact ⟨i + 1, f, by omega, rfl, by go_num, Hn2⟩
                case measure => simp [intOf]; omega
            · cases h1 : t != s
              · rw [h1] at hne
                clear hag h1
                go_wp2
                go_round
                case rel => exact ⟨i + 1, f, by omega, rfl, by go_num, Hn2⟩
                case measure => simp [intOf]; omega
              · rw [h1] at hne
                have h2 : sub s t = false := by simpa [h1] using hag
                rw [h2] at hn1
                clear hag h1 h2
                go_wp2
                go_round
                case rel => exact ⟨i + 1, f, by omega, rfl, by go_num, Hn2⟩
                case measure => simp [intOf]; omega
          · have Hn2 : Hid (false = !((l.take (i + 1)).any (against g s))) := by show _ = _; rw [Han.out, hag, Bool.or_true]; rfl
            unfold against at hag
            have h1 : (t != s) = true := by
              cases h1 : t != s
              · rw [h1] at hag; simp at hag
              · rfl
            rw [h1] at hne
            cases g
            · have h2 : sub t s = true := by simpa [h1] using hag
              rw [h2] at hn2
              clear hag h1 h2
              go_wp2
              go_round
              case rel => exact ⟨i + 1, false, by omega, rfl, by go_num, Hn2⟩
              case measure => simp [intOf]; omega
            · have h2 : sub s t = true := by simpa [h1] using hag
              rw [h2] at hn1
              clear hag h1 h2
              go_wp2
              go_round
              case rel => exact ⟨i + 1, false, by omega, rfl, by go_num, Hn2⟩
              case measure => simp [intOf]; omega
        · have hno3 := hno.out
          rw [take_all _ _ (show l.length ≤ i by omega)] at hno3
          cases f
          · have Hx := hide (extTo_no Hs.out (show l.any (against g s) = true by cases h : l.any (against g s); (rw [h] at hno3; cases hno3); rfl))
            clear hno3
            go_wp2
            go_roundw
            case rel => exact ⟨k + 1, by omega, by go_num, by rw [Hx.out]; exact Hown.out, Hb.out⟩
            case measure => simp [intOf]; omega
          · have Hx := hide (extTo_yes Hs.out (show l.any (against g s) = false by cases h : l.any (against g s); rfl; (rw [h] at hno3; cases hno3)))
            have hown := Hown.out
            have hb := Hb.out
            clear hno3
            go_wp2_with (at_builtin; refine wpList_appI hown s Try.underlying36 infoI rfl _ _ rfl rfl rfl hoL hb.size ?_; intro v' w2 hown1 hb1 _)
            go_roundw
            case rel => exact ⟨k + 1, by omega, by go_num, by rw [Hx.out, zs_snoc]; exact hown1, hb.trans hb1⟩
            case measure => simp [intOf]; omega
    · have Ha := hide (Hall.out k (by omega))
      go_wp2
      go_ret
      exact ⟨_, rfl, by rw [← Ha.out]; exact own_mono hown b1.size, below_step b1 hb b1.size⟩
end Go.Proofs.Ytmkacjpjcfffmaa
