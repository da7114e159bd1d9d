/- Walks: SetsText in the program and in the reference; the laws' helpers szStringS, toStringS. -/
import Derived.Test.YtmkacjpjcfffmaaDoorW50
import Derived.Test.YtmkacjpjcfffmaaDoorW3
namespace Go.Proofs.YtmkacjpjcfffmaaDoor
open Go.RowKit

def setsTxt (xs : List Int) : List UInt8 := Lib.join (xs.map setTxtOf) [44]
theorem txtTo_len6 (s : Nat) : (setTxt s).length ≤ 6 := by
  unfold setTxt
  split
  · simp
  · exact txtTo_len s 6
theorem setTxtOf_len (s : Int) : (setTxtOf s).length ≤ 6 := by
  unfold setTxtOf
  split
  · exact txtTo_len6 _
  · simp
theorem lens_txts : ∀ xs : List Int, Lib.lens (xs.map setTxtOf) ≤ 6 * xs.length
  | [] => by simp [Lib.lens]
  | x :: xs => by
    have h1 := lens_txts xs
    have h2 := setTxtOf_len x
    have e : Lib.lens ((x :: xs).map setTxtOf) = (setTxtOf x).length + Lib.lens (xs.map setTxtOf) := by simp [Lib.lens]
    rw [e, List.length_cons]
    omega
theorem txts_bound (xs : List Int) (hl : xs.length ≤ 1073741824) : Lib.lens (xs.map setTxtOf) + (xs.map setTxtOf).length * ([44] : List UInt8).length ≤ 70368744177664 := by
  have h := lens_txts xs
  rw [List.length_map]
  show _ + xs.length * 1 ≤ _
  omega
def txts (xs : List Int) (k : Nat) : List (List UInt8) := (xs.take k).map setTxtOf
theorem txts_snoc {xs : List Int} {k : Nat} {x : Int} (h : xs[k]? = some x) : txts xs (k + 1) = txts xs k ++ [setTxtOf x] := by
  unfold txts
  rw [take_snoc _ _ _ h, List.map_append]
  rfl
theorem txts_len (xs : List Int) (k : Nat) : (txts xs k).length ≤ xs.length := by
  unfold txts
  rw [List.length_map, List.length_take]
  omega
theorem txts_all {xs : List Int} {k : Nat} (h : xs.length ≤ k) : txts xs k = xs.map setTxtOf := by
  unfold txts
  rw [take_all _ _ h]

theorem setsTextS (v : Value) (xs : List Int) (w : World) (h : IntsAt w w.heap.size v xs) (hl : xs.length ≤ 1073741824) :
    Calls Tryd.prog 22 #[v] w fun e w' => RetS w (setsTxt xs) e w' := by
  obtain ⟨A, c, rfl, hc, he⟩ := form_ h
  have He := hide he
  clear h he hc
  go_enter Tryd.func22, Tryd.ntmps22
  go_wp2
  have Ho0 : Hid (OwnV 9 (w.alloc (.cells #[] 9)) w.heap.size (.slice (some ⟨w.heap.size, 0, none⟩) 0 0) (strsV (txts xs 0))) := own_empty _ _
  have Hb0 := hide (below_alloc w (.cells #[] 9))
  go_loopw [3, 4] (fun u5 i wr => ∃ k : Nat, k ≤ xs.length ∧ i = .int .i64 k ∧ Hid (OwnV 9 wr w.heap.size u5 (strsV (txts xs k))) ∧ Hid (Below w.heap.size w wr)) (fun _ i _ => xs.length - (intOf i).toNat)
  case atStart => exact ⟨0, by omega, rfl, Ho0, Hb0⟩
  case round =>
    obtain ⟨k, hk, rfl, hown, hb⟩ := hrel
    by_cases hlt : k < xs.length
    · obtain ⟨b, o, x, rfl, hbb, hx, hcell0⟩ := He.out k hlt
      have hcell := (hb.out.cell (p := ⟨b, o + k, none⟩) hbb).trans hcell0
      have Hx := hide (txts_snoc hx)
      have hln := txts_len xs k
      clear hcell0 hx
      go_wp2_with fail
      refine (setTextS x wr).mono ?_
      rintro e w4 ⟨rfl, b4⟩
      have Hb4 := hide (hb.out.trans (b4.mono hb.out.size))
      have ho4 := own_below hown.out b4
      have hlen : (strsV (txts xs k)).length < 17179869184 := by rw [strsV_length]; omega
      have hsz := Hb4.out.size
      clear b4 hcell
      go_wp2_with (at_builtin; refine wpList_appV ho4 (.string ⟨(setTxtOf x).toArray⟩) (.string ⟨#[]⟩) 16 Tryd.underlying50 infoS rfl (by decide) rfl rfl _ _ rfl rfl rfl hlen hsz ?_; intro v' w5 hown5 hb5 _)
      have Hown5 : Hid (OwnV 9 w5 w.heap.size v' (strsV (txts xs (k + 1)))) := by show OwnV _ _ _ _ _; rw [Hx.out, strsV_snoc]; exact hown5
      have Hb5 : Hid (Below w.heap.size w w5) := Hb4.out.trans hb5
      go_wp2
      go_roundw
      case rel => exact ⟨k + 1, by omega, by go_num, Hown5, Hb5⟩
      case measure => simp [intOf]; omega
    · have hk2 : xs.length ≤ k := by omega
      have ho := hown.out
      rw [txts_all hk2] at ho
      have Ho := hide ho
      have Hbd := hide (txts_bound xs hl)
      clear ho hown
      go_wp2_with fail
      refine (joinS _ (xs.map setTxtOf) [44] wr (own_reads Ho.out) (by rw [List.length_map]; omega) Hbd.out).mono ?_
      rintro e w6 ⟨rfl, b6⟩
      have B6 := hide (hb.out.trans (b6.mono hb.out.size))
      go_wp2
      go_ret
      exact ⟨rfl, B6.out⟩

theorem setsTextI (v : Value) (xs : List Int) (w : World) (h : IntsAt w w.heap.size v xs) (hl : xs.length ≤ 1073741824) :
    Calls Tryd.prog 25 #[v] w fun e w' => RetS w (setsTxt xs) e w' := by
  obtain ⟨A, c, rfl, hc, he⟩ := form_ h
  have He := hide he
  clear h he hc
  obtain ⟨i0, hi, hz0, hz1, hz2⟩ := info_parts infoS
  have hby : i0.bytes * xs.length ≤ 281474976710656 := by rw [hz2]; omega
  have hml : xs.length ≤ maxLen := by unfold maxLen; omega
  go_enter Tryd.func25, Tryd.ntmps25
  go_wp2_with (at_make; refine wpList_make_own _ rfl _ _ 50 rfl w.heap.size 9 i0 (.string ⟨#[]⟩) 1 Tryd.underlying50 hi hz0 hz1 .i64 .i64 _ xs.length rfl rfl rfl hby hml (Nat.le_refl _) ?_; intro w1 hown1 hg1)
  have Ho0 : Hid (OwnV 9 w1 w.heap.size (.slice (some ⟨w.heap.size, 0, none⟩) 0 xs.length) (strsV (txts xs 0))) := hown1
  have Hb0 : Hid (Below w.heap.size w w1) := grown_below hg1 (Nat.le_refl _) (fun k hk => by cases hk)
  clear hown1 hg1 hi hz0 hz1 hz2 hby hml
  go_loopw [3, 5, 11] (fun u5 _ i wr => ∃ k : Nat, k ≤ xs.length ∧ i = .int .i64 k ∧ Hid (OwnV 9 wr w.heap.size u5 (strsV (txts xs k))) ∧ Hid (Below w.heap.size w wr)) (fun _ _ i _ => xs.length - (intOf i).toNat)
  case atStart => exact ⟨0, by omega, rfl, Ho0, Hb0⟩
  case round =>
    obtain ⟨k, hk, rfl, hown, hb⟩ := hrel
    by_cases hlt : k < xs.length
    · obtain ⟨b, o, x, rfl, hbb, hx, hcell0⟩ := He.out k hlt
      have hcell := (hb.out.cell (p := ⟨b, o + k, none⟩) hbb).trans hcell0
      have Hx := hide (txts_snoc hx)
      have hln := txts_len xs k
      clear hcell0 hx
      go_wp2_with fail
      refine (setTextI x wr).mono ?_
      rintro e w4 ⟨rfl, b4⟩
      have Hb4 := hide (hb.out.trans (b4.mono hb.out.size))
      have ho4 := own_below hown.out b4
      have hlen : (strsV (txts xs k)).length < 17179869184 := by rw [strsV_length]; omega
      have hsz := Hb4.out.size
      clear b4 hcell
      go_wp2_with (at_builtin; refine wpList_appV ho4 (.string ⟨(setTxtOf x).toArray⟩) (.string ⟨#[]⟩) 16 Tryd.underlying50 infoS rfl (by decide) rfl rfl _ _ rfl rfl rfl hlen hsz ?_; intro v' w5 hown5 hb5 _)
      have Hown5 : Hid (OwnV 9 w5 w.heap.size v' (strsV (txts xs (k + 1)))) := by show OwnV _ _ _ _ _; rw [Hx.out, strsV_snoc]; exact hown5
      have Hb5 : Hid (Below w.heap.size w w5) := Hb4.out.trans hb5
      go_wp2
      go_roundw
      case rel => exact ⟨k + 1, by omega, by go_num, Hown5, Hb5⟩
      case measure => simp [intOf]; omega
    · have hk2 : xs.length ≤ k := by omega
      have ho := hown.out
      rw [txts_all hk2] at ho
      have hbd := txts_bound xs hl
      have Hc : Hid (∀ u, OwnV 9 wr w.heap.size u (strsV (xs.map setTxtOf)) → Calls Tryd.prog 41 #[u, .string ⟨([44] : List UInt8).toArray⟩] wr fun e w' => RetS wr (setsTxt xs) e w') := fun u hu => stringsJoinV u (xs.map setTxtOf) [44] wr (own_reads hu) (by rw [List.length_map]; omega) hbd
      have Ho := hide ho
      clear ho hown hbd
      go_wp2_with fail
      refine (Hc.out _ Ho.out).mono ?_
      rintro e w6 ⟨rfl, b6⟩
      have B6 := hide (hb.out.trans (b6.mono hb.out.size))
      go_wp2
      go_ret
      exact ⟨rfl, B6.out⟩

/-! ### the laws' helpers on lists of strings -/
def szOf (ls : List (List UInt8)) : Nat := ls.length + Lib.lens ls
theorem lens_split (ls : List (List UInt8)) (k : Nat) : Lib.lens (ls.take k) ≤ Lib.lens ls := Lib.lens_take_le ls k
theorem copiedS_set (xs : List (List UInt8)) (i : Nat) (x : List UInt8) (h : xs[i]? = some x) : (xs.take i ++ List.replicate (xs.length - i) []).set i x = xs.take (i + 1) ++ List.replicate (xs.length - (i + 1)) [] := by
  have hl := (List.getElem?_eq_some_iff.1 h).1
  have ht : (xs.take i).length = i := by rw [List.length_take]; omega
  rw [List.set_append_right _ _ (by omega), ht, Nat.sub_self, show xs.length - i = (xs.length - (i + 1)) + 1 by omega, List.replicate_succ, List.set_cons_zero, take_snoc _ _ _ h]
  simp
theorem copiedS_len (xs : List (List UInt8)) (i : Nat) (h : i ≤ xs.length) : (xs.take i ++ List.replicate (xs.length - i) ([] : List UInt8)).length = xs.length := by
  rw [List.length_append, List.length_take, List.length_replicate]
  omega
end Go.Proofs.YtmkacjpjcfffmaaDoor
