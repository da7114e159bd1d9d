/- Walks: the greatest and the least sets of a family, in the program. -/
import Derived.Test.YtmkacjpjcfffmabW5
import Derived.Test.YtmkacjpjcfffmabMathTop
namespace Go.Proofs.Ytmkacjpjcfffmab
open Go.RowKit

def notBit (s t : Nat) : Bool := (bits BinOp.andNot IntKind.i64 (s : Int) (t : Int) == 0) == sub s t
theorem notBit_all : ((List.range 64).all fun s => (List.range 64).all fun t => notBit s t) = true := by decide +kernel
theorem not_bit {s t : Nat} (hs : s < 64) (ht : t < 64) : (bits BinOp.andNot IntKind.i64 (s : Int) (t : Int) == 0) = sub s t := by
  have h1 := List.all_eq_true.1 (List.all_eq_true.1 notBit_all s (List.mem_range.2 hs)) t (List.mem_range.2 ht)
  unfold notBit at h1
  simpa using h1
theorem zs_get {l : List Nat} {k n : Nat} (h : l[k]? = some n) : (ints (zs l))[k]? = some (Value.int .i64 (n : Int)) := by simp [ints, zs, h]
theorem any_snoc (l : List Nat) (f : Nat → Bool) (k t : Nat) (h : l[k]? = some t) : (l.take (k + 1)).any f = ((l.take k).any f || f t) := by
  rw [take_snoc _ _ _ h, List.any_append]
  simp

theorem maximalInI (P : Nat → Bool) (w : World) : Calls Try.prog 58 #[.int .u64 (fam P : Int)] w fun e w' => RetI 3 w (zs (maxOf P)) e w' := by
  have Hmax : Hid (maxOf P = maxL (listOf P)) := rfl
  have Hord := hide (listOf_ordered P)
  have hll := listOf_len P
  have Hset := hide (setsInI P)
  generalize hl : listOf P = l at Hmax Hord hll Hset
  clear hl
  generalize hmx : maxOf P = mx at Hmax
  clear hmx
  go_enter Try.func58, Try.ntmps58
  go_wp2_with fail
  refine (Hset.out _).mono ?_
  rintro e w1 ⟨v, rfl, ov, b1⟩
  rcases own_form ov with ⟨rfl, hx⟩ | ⟨g, cap, hv, hg, hgl, hcap⟩
  · have hl0 : l = [] := by simpa [ints, zs] using hx
    subst hl0
    have H : Hid (mx = []) := by rw [Hmax.out]; rfl
    go_wp2
    refine wp_loop_rounds 1 ?_
    rw [rounds_succ]
    go_wp2
    go_ret
    exact ⟨_, rfl, by rw [H.out]; exact own_nil _ _, b1⟩
  · have hlen : (ints (zs l)).length = l.length := by simp [ints, zs]
    rw [hlen] at hv hcap
    subst hv
    have Hc : Hid (∀ (k n : Nat), l[k]? = some n → w1.cell? ⟨g, k, none⟩ = some (.int .i64 (n : Int))) := fun k n hk => (own_cell ov (by rw [hlen]) (zs_get hk)).1
    clear ov hlen
    go_wp2
    go_loopw [4, 14] (fun o i wr => ∃ k : Nat, k ≤ l.length ∧ i = .int .i64 k ∧ OwnV 3 wr w1.heap.size o (ints (zs (maxTo l k))) ∧ Below w1.heap.size w1 wr) (fun _ i _ => l.length - (intOf i).toNat)
    case atStart => exact ⟨0, by omega, rfl, own_nil _ _, Below.refl _ _⟩
    case round =>
      obtain ⟨k, hk, rfl, hown, hb⟩ := hrel
      by_cases hlt : k < l.length
      · obtain ⟨s, hs⟩ : ∃ s, l[k]? = some s := ⟨_, List.getElem?_eq_getElem hlt⟩
        have hs64 := Hord.out.2 s (List.mem_of_getElem? hs)
        have hcs : wr.cell? ⟨g, k, none⟩ = some (.int .i64 (s : Int)) := (hb.cell (p := ⟨g, k, none⟩) hgl).trans (Hc.out k s hs)
        have Hs := hide hs
        have hml := maxTo_len l k
        have hoL : (zs (maxTo l k)).length < 17179869184 := by simp; omega
        clear hs
        obtain ⟨wo, rfl⟩ : ∃ wo : World, wo = wr := ⟨_, rfl⟩
        by_cases hlast : k + 1 = l.length
        · have Hy := hide (maxTo_yes Hord.out Hs.out (by rw [List.drop_of_length_le (by omega)]; rfl))
          have hz : ((l.length : Int) - ((k : Int) + 1)) = 0 := by omega
          have hlast2 : l.length ≤ k + 1 := by omega
          have Hlast := hide hlast
          clear hlast
          by_cases hcap2 : cap = k + 1
          · subst hcap2
            go_wp2
            refine wp_loop_rounds 1 ?_
            rw [rounds_succ]
            go_wp2_with (at_builtin; refine wpList_appI hown s Try.underlying22 infoI rfl _ _ rfl rfl rfl hoL hb.size ?_; intro v' w2 hown1 hb1 _)
            go_roundw
            case rel => exact ⟨k + 1, by omega, by go_num, by rw [Hy.out, zs_snoc]; exact hown1, hb.trans hb1⟩
            case measure => simp [intOf]; omega
          · go_wp2
            refine wp_loop_rounds 1 ?_
            rw [rounds_succ]
            go_wp2_with (at_builtin; refine wpList_appI hown s Try.underlying22 infoI rfl _ _ rfl rfl rfl hoL hb.size ?_; intro v' w2 hown1 hb1 _)
            go_roundw
            case rel => exact ⟨k + 1, by omega, by go_num, by rw [Hy.out, zs_snoc]; exact hown1, hb.trans hb1⟩
            case measure => simp [intOf]; omega
        · have hlt3 : k + 1 < l.length := by omega
          have hcap3 : ¬ cap = k + 1 := by omega
          have Hr : Hid (∀ (i t : Nat), (l.drop (k + 1))[i]? = some t → wo.cell? ⟨g, k + 1 + i, none⟩ = some (.int .i64 (t : Int)) ∧ t < 64) := by
            intro i t hi
            rw [List.getElem?_drop] at hi
            exact ⟨(hb.cell (p := ⟨g, k + 1 + i, none⟩) hgl).trans (Hc.out _ _ hi), Hord.out.2 t (List.mem_of_getElem? hi)⟩
          have Hrl := hide (List.length_drop (i := k + 1) (l := l))
          have Hb := hide hb
          have Hown := hide hown
          clear hb hown hlast
          go_wp2
          go_loop [7, 24] (fun ins j => ∃ i : Nat, i ≤ l.length - (k + 1) ∧ ins = .bool false ∧ j = .int .i64 i ∧ Hid (((l.drop (k + 1)).take i).any (sub s) = false)) (fun _ j => l.length - (k + 1) - (intOf j).toNat)
          case atStart => exact ⟨0, by omega, rfl, rfl, by simp [Hid]⟩
          case round =>
            obtain ⟨i, hi, rfl, rfl, hno⟩ := hrel
            by_cases hil : i < l.length - (k + 1)
            · obtain ⟨t, ht⟩ : ∃ t, (l.drop (k + 1))[i]? = some t := ⟨_, List.getElem?_eq_getElem (by rw [Hrl.out]; omega)⟩
              obtain ⟨hct, ht64⟩ := Hr.out i t ht
              have hnb := not_bit hs64 ht64
              have Han := hide (any_snoc _ (sub s) i t ht)
              clear ht
              cases hsub : sub s t
              · rw [hsub] at hnb
                have Hn2 : Hid (((l.drop (k + 1)).take (i + 1)).any (sub s) = false) := by show _ = _; rw [Han.out, hno.out, hsub]; rfl
                clear hsub
                go_wp2
                go_round
                case rel => exact ⟨i + 1, by omega, rfl, by go_num, Hn2⟩
                case measure => simp [intOf]; omega
              · rw [hsub] at hnb
                have Hin : Hid ((l.drop (k + 1)).any (sub s) = true) := by
                  show _ = _
                  rw [← List.take_append_drop (i + 1) (l.drop (k + 1)), List.any_append, Han.out, hsub]
                  simp
                have Hno2 := hide (maxTo_no Hord.out Hs.out Hin.out)
                clear hsub
                go_wp2
                go_roundw
                case rel => exact ⟨k + 1, by omega, by go_num, by rw [Hno2.out]; exact Hown.out, Hb.out⟩
                case measure => simp [intOf]; omega
            · have Hno3 : Hid ((l.drop (k + 1)).any (sub s) = false) := by
                have := hno.out
                rwa [take_all _ _ (by rw [Hrl.out]; omega)] at this
              have Hy := hide (maxTo_yes Hord.out Hs.out Hno3.out)
              have hown := Hown.out
              have hb := Hb.out
              go_wp2_with (at_builtin; refine wpList_appI hown s Try.underlying22 infoI rfl _ _ rfl rfl rfl hoL hb.size ?_; intro v' w2 hown1 hb1 _)
              go_roundw
              case rel => exact ⟨k + 1, by omega, by go_num, by rw [Hy.out, zs_snoc]; exact hown1, hb.trans hb1⟩
              case measure => simp [intOf]; omega
      · have Hall := hide (maxTo_all l k (by omega))
        go_wp2
        go_ret
        exact ⟨_, rfl, by rw [Hmax.out, ← Hall.out]; exact own_mono hown b1.size, below_step b1 hb b1.size⟩

theorem zs_at {l : List Nat} {k : Nat} {x : Int} (h : (zs l)[k]? = some x) : ∃ n : Nat, x = (n : Int) ∧ l[k]? = some n := by
  simp only [zs, List.getElem?_map, Option.map_eq_some_iff] at h
  obtain ⟨n, hn, rfl⟩ := h
  exact ⟨n, rfl, hn⟩
theorem zs_len (l : List Nat) : (zs l).length = l.length := List.length_map _

theorem famList_eq (xs : List Int) : famList xs = fam (inList xs) := rfl

end Go.Proofs.Ytmkacjpjcfffmab
