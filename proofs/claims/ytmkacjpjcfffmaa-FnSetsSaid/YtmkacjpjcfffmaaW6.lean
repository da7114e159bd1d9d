/- Walks: the greatest and the least sets of a family, in the program. -/
import Derived.Test.YtmkacjpjcfffmaaW5
import Derived.Test.YtmkacjpjcfffmaaMathTop
namespace Go.Proofs.Ytmkacjpjcfffmaa
open Go.RowKit

def notBit (s t : Nat) : Bool := (bits BinOp.andNot IntKind.i64 (s : Int) (t : Int) == 0) == sub s t
theorem notBit_all : ((List.range 64).all fun s => (List.range 64).all fun t => notBit s t) = true := by decide +kernel
theorem not_bit {s t : Nat} (hs : s < 64) (ht : t < 64) : (bits BinOp.andNot IntKind.i64 (s : Int) (t : Int) == 0) = sub s t := by
  have h1 := List.all_eq_true.1 (List.all_eq_true.1 notBit_all s (List.mem_range.2 hs)) t (List.mem_range.2 ht)
  unfold notBit at h1
  simpa using h1
theorem zs_get {l : List Nat} {k n : Nat} (h : l[k]? = some n) : (ints (zs l))[k]? = some (Value.int .i64 (n : Int)) := by simp [ints, zs, h]
theorem any_snoc (l : List Nat) (f : Nat → Bool) (k t : Nat) (h : l[k]? = some t) : (l.take (k + 1)).any f = ((l.take k).any f || f t) := by
  rw [take_snoc _ _ _ h, List.any_append]
  simp

theorem maximalInI (P : Nat → Bool) (w : World) : Calls Try.prog 144 #[.int .u64 (fam P : Int)] w fun e w' => RetI 3 w (zs (maxOf P)) e w' := by
  have Hmax : Hid (maxOf P = maxL (listOf P)) := rfl
  have Hord := hide (listOf_ordered P)
  have hll := listOf_len P
  have Hset := hide (setsInI P)
  generalize hl : listOf P = l at Hmax Hord hll Hset
  clear hl
  generalize hmx : maxOf P = mx at Hmax
  clear hmx
  go_enter Try.func144, Try.ntmps144
  go_wp2_with fail
  refine (Hset.out _).mono ?_
  rintro e w1 ⟨v, rfl, ov, b1⟩
  rcases own_form ov with ⟨rfl, hx⟩ | ⟨g, cap, hv, hg, hgl, hcap⟩
  · have hl0 : l = [] := by simpa [ints, zs] using hx
    subst hl0
    have H : Hid (mx = []) := by rw [Hmax.out]; rfl
    go_wp2
    refine wp_loop_rounds 1 ?_
    rw [rounds_succ]
    go_wp2
    go_ret
    exact ⟨_, rfl, by rw [H.out]; exact own_nil _ _, b1⟩
  · have hlen : (ints (zs l)).length = l.length := by simp [ints, zs]
    rw [hlen] at hv hcap
    subst hv
    have Hc : Hid (∀ (k n : Nat), l[k]? = some n → w1.cell? ⟨g, k, none⟩ = some (.int .i64 (n : Int))) := fun k n hk => (own_cell ov (by rw [hlen]) (zs_get hk)).1
    clear ov hlen
    go_wp2
    go_loopw [4, 14] (fun o i wr => ∃ k : Nat, k ≤ l.length ∧ i = .int .i64 k ∧ OwnV 3 wr w1.heap.size o (ints (zs (maxTo l k))) ∧ Below w1.heap.size w1 wr) (fun _ i _ => l.length - (intOf i).toNat)
    case atStart => exact ⟨0, by omega, rfl, own_nil _ _, Below.refl _ _⟩
    case round =>
      obtain ⟨k, hk, rfl, hown, hb⟩ := hrel
      by_cases hlt : k < l.length
      · obtain ⟨s, hs⟩ : ∃ s, l[k]? = some s := ⟨_, List.getElem?_eq_getElem hlt⟩
        have hs64 := Hord.out.2 s (List.mem_of_getElem? hs)
        have hcs : wr.cell? ⟨g, k, none⟩ = some (.int .i64 (s : Int)) := (hb.cell (p := ⟨g, k, none⟩) hgl).trans (Hc.out k s hs)
        have Hs := hide hs
        have hml := maxTo_len l k
        have hoL : (zs (maxTo l k)).length < 17179869184 := by simp; omega
        clear hs
        obtain ⟨wo, rfl⟩ : ∃ wo : World, wo = wr := ⟨_, rfl⟩
        by_cases hlast : k + 1 = l.length
        · have Hy := hide (maxTo_yes Hord.out Hs.out (by rw [List.drop_of_length_le (by omega)]; rfl))
          have hz : ((l.length : Int) - ((k : Int) + 1)) = 0 := by omega
          have hlast2 : l.length ≤ k + 1 := by omega
          have Hlast := hide hlast
          clear hlast
          by_cases hcap2 : cap = k + 1
          · subst hcap2
            go_wp2
            refine wp_loop_rounds 1 ?_
            rw [rounds_succ]
            go_wp2_with (at_builtin; refine wpList_appI hown s Try.underlying36 infoI rfl _ _ rfl rfl rfl hoL hb.size ?_; intro v' w2 hown1 hb1 _)
            go_roundw
            case rel => exact ⟨k + 1, by omega, by go_num, by rw [Hy.out, zs_snoc]; exact hown1, hb.trans hb1⟩
            case measure => simp [intOf]; omega
          · go_wp2
            refine wp_loop_rounds 1 ?_
            rw [rounds_succ]
            go_wp2_with (at_builtin; refine wpList_appI hown s Try.underlying36 infoI rfl _ _ rfl rfl rfl hoL hb.size ?_; intro v' w2 hown1 hb1 _)
            go_roundw
            case rel => exact ⟨k + 1, by omega, by go_num, by rw [Hy.out, zs_snoc]; exact hown1, hb.trans hb1⟩
            case measure => simp [intOf]; omega
        · have hlt3 : k + 1 < l.length := by omega
          have hcap3 : ¬ cap = k + 1 := by omega
          have Hr : Hid (∀ (i t : Nat), (l.drop (k + 1))[i]? = some t → wo.cell? ⟨g, k + 1 + i, none⟩ = some (.int .i64 (t : Int)) ∧ t < 64) := by
            intro i t hi
            rw [List.getElem?_drop] at hi
            exact ⟨(hb.cell (p := ⟨g, k + 1 + i, none⟩) hgl).trans (Hc.out _ _ hi), Hord.out.2 t (List.mem_of_getElem? hi)⟩
          have Hrl := hide (List.length_drop (i := k + 1) (l := l))
          have Hb := hide hb
          have Hown := hide hown
          clear hb hown hlast
          go_wp2
          go_loop [7, 24] (fun ins j => ∃ i : Nat, i ≤ l.length - (k + 1) ∧ ins = .bool false ∧ j = .int .i64 i ∧ Hid (((l.drop (k + 1)).take i).any (sub s) = false)) (fun _ j => l.length - (k + 1) - (intOf j).toNat)
          case atStart => exact ⟨0, by omega, rfl, rfl, by simp [Hid]⟩
          case round =>
            obtain ⟨i, hi, rfl, rfl, hno⟩ := hrel
            by_cases hil : i < l.length - (k + 1)
            · obtain ⟨t, ht⟩ : ∃ t, (l.drop (k + 1))[i]? = some t := ⟨_, List.getElem?_eq_getElem (by rw [Hrl.out]; omega)⟩
              obtain ⟨hct, ht64⟩ := Hr.out i t ht
              have hnb := not_bit hs64 ht64
              have Han := hide (any_snoc _ (sub s) i t ht)
              clear ht
              cases hsub : sub s t
              · rw [hsub] at hnb
                have Hn2 : Hid (((l.drop (k + 1)).take (i + 1)).any (sub s) = false) := by show _ = _; rw [Han.out, hno.out, hsub]; rfl
                clear hsub
                go_wp2
                go_round
                case rel => exact ⟨i + 1, by omega, rfl, by go_num, Hn2⟩
                case measure => simp [intOf]; omega
              · rw [hsub] at hnb
                have Hin : Hid ((l.drop (k + 1)).any (sub s) = true) := by
                  show _ = _
                  rw [← List.take_append_drop (i + 1) (l.drop (k + 1)), List.any_append, Han.out, hsub]
                  simp
                have Hno2 := hide (maxTo_no Hord.out Hs.out Hin.out)
                clear hsub
                go_wp2
                go_roundw
                case rel => exact ⟨k + 1, by omega, by go_num, by rw [Hno2.out]; exact Hown.out, Hb.out⟩
                case measure => simp [intOf]; omega
            · have Hno3 : Hid ((l.drop (k + 1)).any (sub s) = false) := by
                have := hno.out
                rwa [take_all _ _ (by rw [Hrl.out]; omega)] at this
              have Hy := hide (maxTo_yes Hord.out Hs.out Hno3.out)
              have hown := Hown.out
              have hb := Hb.out
              go_wp2_with (at_builtin; refine wpList_appI hown s Try.underlying36 infoI rfl _ _ rfl rfl rfl hoL hb.size ?_; intro v' w2 hown1 hb1 _)
              go_roundw
              case rel => exact ⟨k + 1, by omega, by go_num, by rw [Hy.out, zs_snoc]; exact hown1, hb.trans hb1⟩
              case measure => simp [intOf]; omega
      · have Hall := hide (maxTo_all l k (by omega))
        go_wp2
        go_ret
        exact ⟨_, rfl, by rw [Hmax.out, ← Hall.out]; exact own_mono hown b1.size, below_step b1 hb b1.size⟩

theorem zs_at {l : List Nat} {k : Nat} {x : Int} (h : (zs l)[k]? = some x) : ∃ n : Nat, x = (n : Int) ∧ l[k]? = some n := by
  simp only [zs, List.getElem?_map, Option.map_eq_some_iff] at h
  obtain ⟨n, hn, rfl⟩ := h
  exact ⟨n, rfl, hn⟩
theorem zs_len (l : List Nat) : (zs l).length = l.length := List.length_map _

theorem minimalInI (P : Nat → Bool) (w : World) : Calls Try.prog 145 #[.int .u64 (fam P : Int)] w fun e w' => RetI 3 w (zs (minOf P)) e w' := by
  have Hmin : Hid (minOf P = minL (listOf P)) := rfl
  have Hord := hide (listOf_ordered P)
  have hll := listOf_len P
  have Hset := hide (setsInI P)
  generalize hl : listOf P = l at Hmin Hord hll Hset
  clear hl
  generalize hmx : minOf P = mx at Hmin
  clear hmx
  go_enter Try.func145, Try.ntmps145
  go_wp2_with fail
  refine (Hset.out _).mono ?_
  rintro e w1 ⟨v, rfl, ov, b1⟩
  obtain ⟨A, cap, hv, hcap, hx⟩ := form_ (own_reads ov)
  rw [zs_len] at hv hcap hx
  subst hv
  have Hc : Hid (∀ (k n : Nat), l[k]? = some n → ∃ g o, A = some ⟨g, o, none⟩ ∧ g < w1.heap.size ∧ w1.cell? ⟨g, o + k, none⟩ = some (.int .i64 (n : Int))) := by
    intro k n hk
    obtain ⟨b, o, x, hA, hb, hxx, hcell⟩ := hx k (List.getElem?_eq_some_iff.1 hk).1
    obtain ⟨m, rfl, hm⟩ := zs_at hxx
    rw [hm] at hk
    cases hk
    exact ⟨b, o, hA, hb, hcell⟩
  clear ov hx
  go_wp2
  go_loopw [3, 12] (fun o i wr => ∃ k : Nat, k ≤ l.length ∧ i = .int .i64 k ∧ OwnV 3 wr w1.heap.size o (ints (zs (minTo l k))) ∧ Below w1.heap.size w1 wr) (fun _ i _ => l.length - (intOf i).toNat)
  case atStart => exact ⟨0, by omega, rfl, own_nil _ _, Below.refl _ _⟩
  case round =>
    obtain ⟨k, hk, rfl, hown, hb⟩ := hrel
    by_cases hlt : k < l.length
    · obtain ⟨s, hs⟩ : ∃ s, l[k]? = some s := ⟨_, List.getElem?_eq_getElem hlt⟩
      have hs64 := Hord.out.2 s (List.mem_of_getElem? hs)
      obtain ⟨g, og, rfl, hgl, hcs0⟩ := Hc.out k s hs
      have hcs : wr.cell? ⟨g, og + k, none⟩ = some (.int .i64 (s : Int)) := (hb.cell (p := ⟨g, og + k, none⟩) hgl).trans hcs0
      have Hs := hide hs
      have hml := minTo_len l k
      have hoL : (zs (minTo l k)).length < 17179869184 := by simp; omega
      clear hs hcs0
      obtain ⟨wo, rfl⟩ : ∃ wo : World, wo = wr := ⟨_, rfl⟩
      obtain ⟨A2, cap2, hv2, hcap2, hx2⟩ := form_ (own_reads hown)
      rw [zs_len] at hv2 hcap2 hx2
      subst hv2
      have Hr : Hid (∀ (i : Nat), i < (minTo l k).length → ∃ g o t, A2 = some ⟨g, o, none⟩ ∧ (minTo l k)[i]? = some t ∧ wo.cell? ⟨g, o + i, none⟩ = some (.int .i64 (t : Int)) ∧ t < 64) := by
        intro i hi
        obtain ⟨b, o, x, hA, hb, hxx, hcell⟩ := hx2 i hi
        obtain ⟨m, rfl, hm⟩ := zs_at hxx
        exact ⟨b, o, m, hA, hm, hcell, Hord.out.2 m (List.mem_of_mem_take (List.mem_filter.1 (List.mem_of_getElem? hm)).1)⟩
      have Hb := hide hb
      have Hown := hide hown
      clear hb hown hx2
      have hnl : (minTo l k).length ≤ 448 := by omega
      go_wp2
      go_loop [6, 18] (fun ins j => ∃ i : Nat, i ≤ (minTo l k).length ∧ ins = .bool false ∧ j = .int .i64 i ∧ Hid (((minTo l k).take i).any (fun t => sub t s) = false)) (fun _ j => (minTo l k).length - (intOf j).toNat)
      case atStart => exact ⟨0, by omega, rfl, rfl, by simp [Hid]⟩
      case round =>
        obtain ⟨i, hi, rfl, rfl, hno⟩ := hrel
        by_cases hil : i < (minTo l k).length
        · obtain ⟨g2, o2, t, rfl, ht, hct, ht64⟩ := Hr.out i hil
          have hnb := not_bit ht64 hs64
          have Han := hide (any_snoc _ (fun t => sub t s) i t ht)
          clear ht
          cases hsub : sub t s
          · rw [hsub] at hnb
            have Hn2 : Hid (((minTo l k).take (i + 1)).any (fun t => sub t s) = false) := by show _ = _; rw [Han.out, hno.out, hsub]; rfl
            clear hsub
            go_wp2
            go_round
            case rel => exact ⟨i + 1, by omega, rfl, by go_num, Hn2⟩
            case measure => simp [intOf]; omega
          · rw [hsub] at hnb
            have Hin : Hid ((minTo l k).any (fun t => sub t s) = true) := by
              show _ = _
              rw [← List.take_append_drop (i + 1) (minTo l k), List.any_append, Han.out, hsub]
              simp
            have Hno2 := hide (minTo_no Hord.out Hs.out Hin.out)
            clear hsub
            go_wp2
            go_roundw
            case rel => exact ⟨k + 1, by omega, by go_num, by rw [Hno2.out]; exact Hown.out, Hb.out⟩
            case measure => simp [intOf]; omega
        · have Hno3 : Hid ((minTo l k).any (fun t => sub t s) = false) := by
            have := hno.out
            rwa [take_all _ _ (by omega)] at this
          have Hy := hide (minTo_yes Hord.out Hs.out Hno3.out)
          have hown := Hown.out
          have hb := Hb.out
          go_wp2_with (at_builtin; refine wpList_appI hown s Try.underlying36 infoI rfl _ _ rfl rfl rfl hoL hb.size ?_; intro v' w2 hown1 hb1 _)
          go_roundw
          case rel => exact ⟨k + 1, by omega, by go_num, by rw [Hy.out, zs_snoc]; exact hown1, hb.trans hb1⟩
          case measure => simp [intOf]; omega
    · have Hall := hide (minTo_all l k (by omega))
      go_wp2
      go_ret
      exact ⟨_, rfl, by rw [Hmin.out, ← Hall.out]; exact own_mono hown b1.size, below_step b1 hb b1.size⟩

theorem famList_eq (xs : List Int) : famList xs = fam (inList xs) := rfl

theorem orderSetsI (v : Value) (xs : List Int) (w : World) (h : IntsAt w w.heap.size v xs) (hl : xs.length ≤ 1073741824) : Calls Try.prog 90 #[v] w fun e w' => RetI 3 w (zs (orderOf xs)) e w' := by
  cases ha : allSets xs
  · rw [orderOf_no ha]
    have Hf := hide (famRes_no ha)
    have Ha := hide ha
    clear ha
    go_enter Try.func90, Try.ntmps90
    go_wp2_with fail
    refine (familyOfI v xs w h hl).mono ?_
    rw [Hf.out, Ha.out]
    rintro e w' ⟨rfl, rfl⟩
    go_wp2
    go_ret
    exact ⟨_, rfl, own_nil _ _, Below.refl _ _⟩
  · rw [orderOf_yes ha]
    have Hf := hide ((famRes_yes ha).trans (famList_eq xs))
    have Ha := hide ha
    clear ha
    go_enter Try.func90, Try.ntmps90
    go_wp2_with fail
    refine (familyOfI v xs w h hl).mono ?_
    rw [Hf.out, Ha.out]
    rintro e w' ⟨rfl, rfl⟩
    go_wp2_with fail
    refine (setsInI _ _).mono ?_
    rintro e w1 ⟨u, rfl, hu, hb⟩
    go_wp2
    go_ret
    exact ⟨_, rfl, hu, hb⟩
theorem maximalSetsI (v : Value) (xs : List Int) (w : World) (h : IntsAt w w.heap.size v xs) (hl : xs.length ≤ 1073741824) : Calls Try.prog 83 #[v] w fun e w' => RetI 3 w (zs (maxSets xs)) e w' := by
  cases ha : allSets xs
  · rw [maxSets_no ha]
    have Hf := hide (famRes_no ha)
    have Ha := hide ha
    clear ha
    go_enter Try.func83, Try.ntmps83
    go_wp2_with fail
    refine (familyOfI v xs w h hl).mono ?_
    rw [Hf.out, Ha.out]
    rintro e w' ⟨rfl, rfl⟩
    go_wp2
    go_ret
    exact ⟨_, rfl, own_nil _ _, Below.refl _ _⟩
  · rw [maxSets_yes ha]
    have Hf := hide ((famRes_yes ha).trans (famList_eq xs))
    have Ha := hide ha
    clear ha
    go_enter Try.func83, Try.ntmps83
    go_wp2_with fail
    refine (familyOfI v xs w h hl).mono ?_
    rw [Hf.out, Ha.out]
    rintro e w' ⟨rfl, rfl⟩
    go_wp2_with fail
    refine (maximalInI _ _).mono ?_
    rintro e w1 ⟨u, rfl, hu, hb⟩
    go_wp2
    go_ret
    exact ⟨_, rfl, hu, hb⟩
theorem minimalSetsI (v : Value) (xs : List Int) (w : World) (h : IntsAt w w.heap.size v xs) (hl : xs.length ≤ 1073741824) : Calls Try.prog 84 #[v] w fun e w' => RetI 3 w (zs (minSets xs)) e w' := by
  cases ha : allSets xs
  · rw [minSets_no ha]
    have Hf := hide (famRes_no ha)
    have Ha := hide ha
    clear ha
    go_enter Try.func84, Try.ntmps84
    go_wp2_with fail
    refine (familyOfI v xs w h hl).mono ?_
    rw [Hf.out, Ha.out]
    rintro e w' ⟨rfl, rfl⟩
    go_wp2
    go_ret
    exact ⟨_, rfl, own_nil _ _, Below.refl _ _⟩
  · rw [minSets_yes ha]
    have Hf := hide ((famRes_yes ha).trans (famList_eq xs))
    have Ha := hide ha
    clear ha
    go_enter Try.func84, Try.ntmps84
    go_wp2_with fail
    refine (familyOfI v xs w h hl).mono ?_
    rw [Hf.out, Ha.out]
    rintro e w' ⟨rfl, rfl⟩
    go_wp2_with fail
    refine (minimalInI _ _).mono ?_
    rintro e w1 ⟨u, rfl, hu, hb⟩
    go_wp2
    go_ret
    exact ⟨_, rfl, hu, hb⟩
theorem subsetsOfI (s : Int) (w : World) : Calls Try.prog 97 #[.int .i64 s] w fun e w' => RetI 3 w (zs (subsetsOf s)) e w' := by
  by_cases hs : 0 ≤ s ∧ s < 64
  · have h1 : isSetB 6 s = true := by rw [isSetB_six]; exact decide_eq_true hs
    obtain ⟨m, rfl⟩ := Int.eq_ofNat_of_zero_le hs.1
    have hm : m < 64 := by omega
    rw [subsetsOf_yes hm]
    clear hs
    go_enter Try.func97, Try.ntmps97
    go_wp2_with (first | (go_at_call 86; refine (isSetI _ _ _).mono ?_; rintro e w' ⟨rfl, rfl⟩) | (go_at_call 151; refine (subsetFamilyI _ hm _).mono ?_; rintro e w' ⟨rfl, rfl⟩))
    refine (setsInI _ _).mono ?_
    rintro e w1 ⟨u, rfl, hu, hb⟩
    go_wp2
    go_ret
    exact ⟨_, rfl, hu, hb⟩
  · have h1 : isSetB 6 s = false := by rw [isSetB_six]; exact decide_eq_false hs
    rw [subsetsOf_no hs]
    clear hs
    go_enter Try.func97, Try.ntmps97
    go_wp2_with (go_at_call 86; refine (isSetI _ _ _).mono ?_; rintro e w' ⟨rfl, rfl⟩)
    go_ret
    exact ⟨_, rfl, own_nil _ _, Below.refl _ _⟩
end Go.Proofs.Ytmkacjpjcfffmaa
