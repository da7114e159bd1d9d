/- Walks: SetText, in the program and in the reference. -/
import Derived.Test.YtmkacjpjcfffmaaDoorPts
import Derived.Test.YtmkacjpjcfffmaaDoorMathTxt
namespace Go.Proofs.YtmkacjpjcfffmaaDoor
open Go.RowKit

/-- The text of s; of what is no set, the empty one. -/
def setTxtOf (s : Int) : List UInt8 := if 0 ≤ s ∧ s < 64 then setTxt s.toNat else []
theorem setTxtOf_yes {s : Nat} (h : s < 64) : setTxtOf s = setTxt s := by simp [setTxtOf]; omega
theorem setTxtOf_no {s : Int} (h : ¬ (0 ≤ s ∧ s < 64)) : setTxtOf s = [] := by simp [setTxtOf, h]

theorem abc_app (l : List UInt8) (k : Nat) (h : k < 6) : ((⟨l.toArray⟩ : ByteArray) ++ (⟨#[97, 98, 99, 100, 101, 102]⟩ : ByteArray).extract k (k + 1)) = ⟨(l ++ [UInt8.ofNat (97 + k)]).toArray⟩ := by
  have e : (⟨#[97, 98, 99, 100, 101, 102]⟩ : ByteArray).extract k (k + 1) = ⟨#[UInt8.ofNat (97 + k)]⟩ := by
    match k, h with
    | 0, _ | 1, _ | 2, _ | 3, _ | 4, _ | 5, _ => rfl
  rw [e]
  apply ByteArray.ext
  simp

theorem setTextS (s : Int) (w : World) : Calls Tryd.prog 37 #[.int .i64 s] w fun e w' => RetS w (setTxtOf s) e w' := by
  by_cases hs : 0 ≤ s ∧ s < 64
  · obtain ⟨h0, h1⟩ := hs
    obtain ⟨s, rfl⟩ := Int.eq_ofNat_of_zero_le h0
    have h2 : s < 64 := by omega
    have h : inB s 0 63 = true := inB_mk ⟨h0, by omega⟩
    rw [setTxtOf_yes h2]
    by_cases hz : s = 0
    · subst hz
      have h : inB 0 0 63 = true := inB_mk ⟨by omega, by omega⟩
      go_enter Tryd.func37, Tryd.ntmps37
      go_wp2_with (go_at_call 36; refine (l1InS _ _ _ _).mono ?_; rintro e w' ⟨rfl, rfl⟩)
      go_ret
      exact ⟨rfl, Below.refl _ _⟩
    · have hz2 : ((s : Int) == 0) = false := by simp; omega
      have Hz := hide (show setTxt s = txtTo s 6 by simp [setTxt, hz])
      clear hz
      go_enter Tryd.func37, Tryd.ntmps37
      go_wp2_with (go_at_call 36; refine (l1InS _ _ _ _).mono ?_; rintro e w' ⟨rfl, rfl⟩)
      go_loop [3, 4] (fun t i => ∃ k : Nat, k ≤ 6 ∧ i = .int .i64 k ∧ t = .string ⟨(txtTo s k).toArray⟩) (fun _ i => 6 - (intOf i).toNat)
      case atStart => exact ⟨0, by omega, rfl, rfl⟩
      case round =>
        obtain ⟨k, hk, rfl, rfl⟩ := hrel
        by_cases hlt : k < 6
        · have hl := txtTo_len s k
          cases hbit : s.testBit k
          · have hb2 := bit_at s k _ (by omega) hbit
            have hp := hide (txtTo_no s k hbit)
            clear hbit
            go_wp2
            go_round
            case rel => exact ⟨k + 1, by omega, by go_num, by rw [hp.out]⟩
            case measure => simp [intOf]; omega
          · have hb2 := bit_at s k _ (by omega) hbit
            have hp := hide (txtTo_yes s k hbit)
            clear hbit
            go_wp2
            go_round
            case rel => 
              refine ⟨k + 1, by omega, by go_num, ?_⟩
              rw [hp.out, abc_app _ _ hlt]
            case measure => simp [intOf]; omega
        · obtain rfl : k = 6 := by omega
          go_wp2
          go_ret
          exact ⟨by rw [Hz.out]; rfl, Below.refl _ _⟩
  · have h : inB s 0 63 = false := inB_no (fun h => hs ⟨h.1, by omega⟩)
    rw [setTxtOf_no hs]
    go_enter Tryd.func37, Tryd.ntmps37
    go_wp2_with (go_at_call 36; refine (l1InS _ _ _ _).mono ?_; rintro e w' ⟨rfl, rfl⟩)
    go_ret
    exact ⟨rfl, Below.refl _ _⟩

theorem infoB : (Tryd.prog.info? 5).map (fun i => (i.zero, i.size, i.bytes)) = some (some (.int .u8 0), 1, 1) := by kernel_rfl
theorem pts_get (s k : Nat) (x : Int) (h : (pts s 6)[k]? = some x) : ∃ j : Nat, x = j ∧ j < 6 := by
  have hm := List.mem_of_getElem? h
  simp only [pts, List.mem_map, List.mem_filter, List.mem_range] at hm
  obtain ⟨j, ⟨hj, _⟩, rfl⟩ := hm
  exact ⟨j, rfl, hj⟩
/-- A point's letter. -/
def letter (x : Int) : UInt8 := UInt8.ofNat (97 + x.toNat)
theorem letters (s : Nat) : (pts s 6).map letter = txtTo s 6 := by
  simp [pts, txtTo, letter, List.map_map, Function.comp_def]
theorem letter_val (j : Nat) (h : j < 6) : ((letter (j : Int)).toNat : Int) = 97 + (j : Int) := by
  match j, h with
  | 0, _ | 1, _ | 2, _ | 3, _ | 4, _ | 5, _ => rfl

theorem setTextI (s : Int) (w : World) : Calls Tryd.prog 40 #[.int .i64 s] w fun e w' => RetS w (setTxtOf s) e w' := by
  by_cases hs : 0 ≤ s ∧ s < 64
  · obtain ⟨h0, h1⟩ := hs
    obtain ⟨s, rfl⟩ := Int.eq_ofNat_of_zero_le h0
    have h2 : s < 64 := by omega
    have h : isSetB 6 s = true := by rw [isSetB_six]; exact decide_eq_true ⟨h0, h1⟩
    rw [setTxtOf_yes h2]
    by_cases hz : s = 0
    · subst hz
      have h : isSetB 6 0 = true := by rw [isSetB_six]; rfl
      go_enter Tryd.func40, Tryd.ntmps40
      go_wp2_with (go_at_call 46; refine (isSetI _ _ _).mono ?_; rintro e w' ⟨rfl, rfl⟩)
      go_ret
      exact ⟨rfl, Below.refl _ _⟩
    · have hz2 : ((s : Int) == 0) = false := by simp; omega
      have Hz := hide (show setTxt s = (pts s 6).map letter by simp [letters, setTxt, hz])
      clear hz
      have hmk : ∀ w, (Instr.makeSlice 33 (.int .i64 0) (.int .i64 6)).run Tryd.prog w = .ok (.slice (some ⟨w.heap.size, 0, none⟩) 0 6) (w.alloc (.cells #[.int .u8 0, .int .u8 0, .int .u8 0, .int .u8 0, .int .u8 0, .int .u8 0] 5)) := fun _ => by kernel_rfl
      have hpo := ptsOf_yes h2
      have Hlen := pts_len s 6
      go_enter Tryd.func40, Tryd.ntmps40
      go_wp2_with (go_at_call 46; refine (isSetI _ _ _).mono ?_; rintro e w' ⟨rfl, rfl⟩)
      refine (pointsOfI _ _).mono ?_
      rw [hpo]
      rintro e w1 ⟨vp, rfl, op, b1⟩
      have bw := (below_alloc w _).trans (b1.mono (by simp))
      have ob := own_below (World.ownsRow_made (base := w.heap.size) (size := 1) (e := 5) w #[.int .u8 0, .int .u8 0, .int .u8 0, .int .u8 0, .int .u8 0, .int .u8 0] 6 (Nat.le_refl _) (by decide) rfl) b1
      obtain ⟨i0, hi, hz0, hz1, hz2'⟩ := info_parts infoB
      rcases own_form op with ⟨rfl, hx⟩ | ⟨g, cap, hv, hg, hgl, hcap⟩
      · have hx0 := hide (show pts s 6 = [] by simpa [ints] using hx)
        clear hx
        have hcv := own_str (P := Tryd.prog) (src := 33) (dst := 9) Tryd.underlying33 Tryd.underlying5 Tryd.underlying9 (l := []) ob
        go_wp2
        refine wp_loop_rounds 1 ?_
        rw [rounds_succ]
        go_wp2
        go_ret
        exact ⟨by rw [Hz.out, hx0.out]; rfl, bw⟩
      · rw [ints_length] at hv hcap
        subst hv
        simp at hg
        have Hop := hide op
        have HB := hide b1
        clear op b1
        go_wp2
        go_loopw [3, 15] (fun v i wr => ∃ k : Nat, k ≤ (pts s 6).length ∧ i = .int .i64 k ∧ v = .slice (some ⟨w.heap.size, 0, none⟩) k 6 ∧ wr.ownsRow w.heap.size 5 1 (.slice (some ⟨w.heap.size, 0, none⟩) k 6) k (bytesV (((pts s 6).take k).map letter)) ∧ w1.grownBy wr (some w.heap.size)) (fun _ i _ => (pts s 6).length - (intOf i).toNat)
        case atStart => exact ⟨0, by omega, rfl, rfl, ob, grown_refl _ _⟩
        case round =>
          obtain ⟨k, hk, rfl, rfl, hown, hgr⟩ := hrel
          by_cases hlt : k < (pts s 6).length
          · obtain ⟨x, hx⟩ : ∃ x, (pts s 6)[k]? = some x := ⟨_, List.getElem?_eq_getElem hlt⟩
            obtain ⟨j, rfl, hj⟩ := pts_get s k x hx
            have hcell : wr.cell? ⟨g, k, none⟩ = some (.int .i64 (j : Int)) := by
              have h1 := (own_cell Hop.out (by rw [ints_length]) (k := k) (u := .int .i64 (j : Int)) (by simp [ints, hx])).1
              exact hgr.cell h1 (by simp; omega)
            have Hs := hide (take_snoc _ _ _ hx)
            have hlv := letter_val j hj
            clear hx
            go_wp2_with (at_builtin; refine wpList_append_fits _ rfl _ _ 33 rfl w.heap.size 5 i0 1 Tryd.underlying33 hi hz1 w.heap.size k 6 _ rfl (hown.alloc _) ⟨wr.heap.size, 0, none⟩ 1 1 [.int .u8 (97 + (j : Int))] rfl rfl ?c1 ?c2 ?c3 ?_; rotate_right; intro w2 hown2 hg2)
            case c1 =>
              intro i u hu
              match i, hu with
              | 0, hu => simp at hu; subst hu; simp [Addr.add]
            case c2 => exact ints_oneCell .u8 [97 + (j : Int)]
            case c3 => omega
            have Ho : Hid (w2.ownsRow w.heap.size 5 1 (.slice (some ⟨w.heap.size, 0, none⟩) (k + 1) 6) (k + 1) (bytesV (((pts s 6).take (k + 1)).map letter))) := by
              rw [Hs.out, List.map_append]
              simpa [bytesV, hlv, Hid] using hown2
            have Hg := hide (grown_trans hgr (grown_trans (World.grownBy_alloc wr _ _) hg2))
            clear hown2 hg2 hgr hcell hown hlv
            go_wp2
            go_roundw
            case rel => exact ⟨k + 1, by omega, by go_num, rfl, Ho.out, Hg.out⟩
            case measure => simp [intOf]; omega
          · have hkl := hide (show k = (pts s 6).length by omega)
            have ho2 : OwnV 5 wr w.heap.size (.slice (some ⟨w.heap.size, 0, none⟩) k 6) (bytesV (((pts s 6).take k).map letter)) := by
              have : (bytesV (((pts s 6).take k).map letter)).length = k := by simp [bytesV]; omega
              unfold OwnV
              rw [this]
              exact hown
            have hcv := own_str (P := Tryd.prog) (src := 33) (dst := 9) Tryd.underlying33 Tryd.underlying5 Tryd.underlying9 ho2
            have Hb := hide (bw.trans (grown_below (B := w.heap.size) hgr (by have := bw.size; omega) (fun i hi => by cases hi; exact Nat.le_refl _)))
            clear ho2 hown hgr
            go_wp2
            go_ret
            exact ⟨ret_str (by rw [Hz.out, List.take_of_length_le (by rw [List.length_map, hkl.out]; exact Nat.le_refl _)]), Hb.out⟩
  · have h : isSetB 6 s = false := by rw [isSetB_six]; exact decide_eq_false hs
    rw [setTxtOf_no hs]
    go_enter Tryd.func40, Tryd.ntmps40
    go_wp2_with (go_at_call 46; refine (isSetI _ _ _).mono ?_; rintro e w' ⟨rfl, rfl⟩)
    go_ret
    exact ⟨rfl, Below.refl _ _⟩
end Go.Proofs.YtmkacjpjcfffmaaDoor
