/- Walks: SplitByte, in the program and in the reference. -/
import Derived.Test.YtmkacjpjcfffmaaW1
import Derived.Lib.Strings
import Derived.Test.YtmkacjpjcfffmaaMathSplit
namespace Go.Proofs.Ytmkacjpjcfffmaa
open Go.RowKit

theorem infoS' : (Try.prog.info? 9).map (fun i => (i.zero, i.size, i.bytes)) = some (some (.string ⟨#[]⟩), 1, 16) := by kernel_rfl

theorem cut_eq (l : List UInt8) (a b : Nat) : (⟨l.toArray⟩ : ByteArray).extract a b = ⟨((l.drop a).take (b - a)).toArray⟩ := by
  have := Lib.extract_eq (⟨l.toArray⟩ : ByteArray) a b
  simpa using this
theorem splitByteI (l : List UInt8) (b : UInt8) (w : World) (hl : l.length ≤ 1073741824) :
    Calls Try.prog 23 #[.string ⟨l.toArray⟩, .int .u8 (b.toNat : Int)] w fun e w' => RetSs 9 w (splitB b l) e w' := by
  go_enter Try.func23, Try.ntmps23
  go_wp2
  go_loopw [5, 6, 7] (fun v st i wr => ∃ (k : Nat), k ≤ l.length ∧ i = .int .i64 k ∧ st = .int .i64 ((spTo b l k).2 : Int) ∧ OwnV 9 wr w.heap.size v (strsV (spTo b l k).1) ∧ Below w.heap.size w wr) (fun _ _ i _ => l.length - (intOf i).toNat)
  case atStart => exact ⟨0, by omega, rfl, rfl, own_nil _ _, Below.refl _ _⟩
  case round =>
    obtain ⟨k, hk, rfl, rfl, hown, hb⟩ := hrel
    have hle := spTo_le b l k
    by_cases hlt : k < l.length
    · obtain ⟨c, hc⟩ : ∃ c, l[k]? = some c := ⟨_, List.getElem?_eq_getElem hlt⟩
      have Hc := hide hc
      obtain ⟨hk1, hgl⟩ := bget l k c hc
      clear hc
      by_cases hcb : c = b
      · subst hcb
        have hp := hide (spTo_hit c l k Hc.out)
        have hq : ((c.toNat : Int) == (c.toNat : Int)) = true := by simp
        have hlen : (strsV (spTo c l k).1).length < 17179869184 := by rw [strsV_length]; omega
        go_wp2_with (at_builtin; refine wpList_appV hown (.string ((⟨l.toArray⟩ : ByteArray).extract (spTo c l k).2 k)) (.string ⟨#[]⟩) 16 Try.underlying25 infoS' rfl (by decide) rfl rfl _ _ rfl rfl rfl hlen hb.size ?_; intro v' w1 hown1 hb1 _)
        have Ho : Hid (OwnV 9 w1 w.heap.size v' (strsV (spTo c l (k + 1)).1)) := by
          rw [hp.out]
          show OwnV _ _ _ _ (strsV ((spTo c l k).1 ++ [_]))
          rw [strsV_snoc, ← cut_eq]
          exact hown1
        have H2 := hide (congrArg Prod.snd hp.out)
        have Hb := hide (hb.trans hb1)
        clear hown1 hb1 hown hb hlen
        go_wp2
        go_roundw
        case rel => exact ⟨k + 1, by omega, by go_num, by rw [H2.out]; go_num, Ho.out, Hb.out⟩
        case measure => simp [intOf]; omega
      · have hp := hide (spTo_miss b l k (by rw [Hc.out]; simpa using hcb))
        have hq : ((c.toNat : Int) == (b.toNat : Int)) = false := by
          have : c.toNat ≠ b.toNat := fun h => hcb (UInt8.toNat_inj.1 h)
          simp
          omega
        go_wp2
        go_roundw
        case rel => exact ⟨k + 1, by omega, by go_num, by rw [hp.out], by rw [hp.out]; exact hown, hb⟩
        case measure => simp [intOf]; omega
    · have Hk := hide (show k = l.length by omega)
      have hlen : (strsV (spTo b l k).1).length < 17179869184 := by rw [strsV_length]; omega
      have hge : l.length ≤ k := by omega
      go_wp2_with (at_builtin; refine wpList_appV hown (.string ((⟨l.toArray⟩ : ByteArray).extract (spTo b l k).2 l.length)) (.string ⟨#[]⟩) 16 Try.underlying25 infoS' rfl (by decide) rfl rfl _ _ rfl rfl rfl hlen hb.size ?_; intro v' w1 hown1 hb1 _)
      go_ret
      refine ⟨_, rfl, ?_, hb.trans hb1⟩
      have e : splitB b l = (spTo b l k).1 ++ [(l.drop (spTo b l k).2).take (l.length - (spTo b l k).2)] := by
        unfold splitB
        rw [← Hk.out, List.take_of_length_le (by rw [List.length_drop, Hk.out]; exact Nat.le_refl _)]
      rw [e, strsV_snoc, ← cut_eq]
      exact hown1

theorem splitByteS (l : List UInt8) (b : UInt8) (w : World) (hl : l.length ≤ 1073741824) :
    Calls Try.prog 24 #[.string ⟨l.toArray⟩, .int .u8 (b.toNat : Int)] w fun e w' => RetSs 9 w (splitB b l) e w' := by
  go_enter Try.func24, Try.ntmps24
  go_wp2
  go_loopw [5, 6, 7] (fun v st i wr => ∃ (k f : Nat) (ls : List (List UInt8)), k ≤ l.length + 1 ∧ i = .int .i64 k ∧ st = .int .i64 (f : Int) ∧ Hid ((k ≤ l.length → ls = (spTo b l k).1 ∧ f = (spTo b l k).2) ∧ (k = l.length + 1 → ls = splitB b l)) ∧ OwnV 9 wr w.heap.size v (strsV ls) ∧ Below w.heap.size w wr) (fun _ _ i _ => l.length + 1 - (intOf i).toNat)
  case atStart => exact ⟨0, 0, [], by omega, rfl, rfl, ⟨fun _ => ⟨rfl, rfl⟩, fun h => by omega⟩, own_empty _ _, below_alloc _ _⟩
  case round =>
    obtain ⟨k, f, ls, hk, rfl, rfl, hrl, hown, hb⟩ := hrel
    by_cases hlt : k ≤ l.length
    · obtain ⟨rfl, rfl⟩ := hrl.out.1 hlt
      clear hrl
      have hle := spTo_le b l k
      have hlen : (strsV (spTo b l k).1).length < 17179869184 := by rw [strsV_length]; omega
      by_cases hlt2 : k < l.length
      · obtain ⟨c, hc⟩ : ∃ c, l[k]? = some c := ⟨_, List.getElem?_eq_getElem hlt2⟩
        have Hc := hide hc
        obtain ⟨hk1, hgl⟩ := bget l k c hc
        clear hc
        have hkne : ((k : Int) == (l.length : Int)) = false := by simp; omega
        by_cases hcb : c = b
        · subst hcb
          have hp := hide (spTo_hit c l k Hc.out)
          have hq : ((c.toNat : Int) == (c.toNat : Int)) = true := by simp
          go_wp2_with (at_builtin; refine wpList_appV hown (.string ((⟨l.toArray⟩ : ByteArray).extract (spTo c l k).2 k)) (.string ⟨#[]⟩) 16 Try.underlying25 infoS' rfl (by decide) rfl rfl _ _ rfl rfl rfl hlen hb.size ?_; intro v' w1 hown1 hb1 _)
          have Ho : Hid (OwnV 9 w1 w.heap.size v' (strsV (spTo c l (k + 1)).1)) := by
            rw [hp.out]
            show OwnV _ _ _ _ (strsV ((spTo c l k).1 ++ [_]))
            rw [strsV_snoc, ← cut_eq]
            exact hown1
          have H2 := hide (congrArg Prod.snd hp.out)
          have Hb := hide (hb.trans hb1)
          clear hown1 hb1 hown hb hlen
          go_wp2
          go_roundw
          case rel => exact ⟨k + 1, (spTo c l (k + 1)).2, _, by omega, by go_num, by rw [H2.out]; go_num, ⟨fun _ => ⟨rfl, rfl⟩, fun h => by omega⟩, Ho.out, Hb.out⟩
          case measure => simp [intOf]; omega
        · have hp := hide (spTo_miss b l k (by rw [Hc.out]; simpa using hcb))
          have hq : ((c.toNat : Int) == (b.toNat : Int)) = false := by
            have : c.toNat ≠ b.toNat := fun h => hcb (UInt8.toNat_inj.1 h)
            simp
            omega
          go_wp2
          go_roundw
          case rel => exact ⟨k + 1, (spTo b l (k + 1)).2, (spTo b l (k + 1)).1, by omega, by go_num, by rw [hp.out], ⟨fun _ => ⟨rfl, rfl⟩, fun h => by omega⟩, by rw [hp.out]; exact hown, hb⟩
          case measure => simp [intOf]; omega
      · have Hk := hide (show k = l.length by omega)
        have hkne : ((k : Int) == (l.length : Int)) = true := by simp; omega
        have hge : l.length ≤ k := by omega
        clear hlt2
        go_wp2_with (at_builtin; refine wpList_appV hown (.string ((⟨l.toArray⟩ : ByteArray).extract (spTo b l k).2 k)) (.string ⟨#[]⟩) 16 Try.underlying25 infoS' rfl (by decide) rfl rfl _ _ rfl rfl rfl hlen hb.size ?_; intro v' w1 hown1 hb1 _)
        have Ho : Hid (OwnV 9 w1 w.heap.size v' (strsV (splitB b l))) := by
          have e : splitB b l = (spTo b l k).1 ++ [(l.drop (spTo b l k).2).take (k - (spTo b l k).2)] := by
            unfold splitB
            rw [← Hk.out, List.take_of_length_le (by rw [List.length_drop, Hk.out]; exact Nat.le_refl _)]
          rw [e, strsV_snoc, ← cut_eq]
          exact hown1
        have Hb := hide (hb.trans hb1)
        clear hown1 hb1 hown hb hlen
        go_wp2
        go_roundw
        case rel => exact ⟨k + 1, k + 1, _, by omega, by go_num, by go_num, ⟨fun h => by omega, fun _ => rfl⟩, Ho.out, Hb.out⟩
        case measure => simp [intOf]; omega
    · have hls := hide (hrl.out.2 (by omega))
      have hgt : l.length < k := by omega
      clear hrl hlt
      go_wp2
      go_ret
      exact ⟨_, rfl, by rw [← hls.out]; exact hown, hb⟩
end Go.Proofs.Ytmkacjpjcfffmaa
