/- Walks: SetsText in the program and in the reference; the laws' helpers szStringS, toStringS. -/
import Derived.Test.YtmkacjpjcfffmaaW50
import Derived.Test.YtmkacjpjcfffmaaW3
namespace Go.Proofs.Ytmkacjpjcfffmaa
open Go.RowKit

def setsTxt (xs : List Int) : List UInt8 := Lib.join (xs.map setTxtOf) [44]
theorem txtTo_len6 (s : Nat) : (setTxt s).length ≤ 6 := by
  unfold setTxt
  split
  · simp
  · exact txtTo_len s 6
theorem setTxtOf_len (s : Int) : (setTxtOf s).length ≤ 6 := by
  unfold setTxtOf
  split
  · exact txtTo_len6 _
  · simp
theorem lens_txts : ∀ xs : List Int, Lib.lens (xs.map setTxtOf) ≤ 6 * xs.length
  | [] => by simp [Lib.lens]
  | x :: xs => by
    have h1 := lens_txts xs
    have h2 := setTxtOf_len x
    have e : Lib.lens ((x :: xs).map setTxtOf) = (setTxtOf x).length + Lib.lens (xs.map setTxtOf) := by simp [Lib.lens]
    rw [e, List.length_cons]
    omega
theorem txts_bound (xs : List Int) (hl : xs.length ≤ 1073741824) : Lib.lens (xs.map setTxtOf) + (xs.map setTxtOf).length * ([44] : List UInt8).length ≤ 70368744177664 := by
  have h := lens_txts xs
  rw [List.length_map]
  show _ + xs.length * 1 ≤ _
  omega
def txts (xs : List Int) (k : Nat) : List (List UInt8) := (xs.take k).map setTxtOf
theorem txts_snoc {xs : List Int} {k : Nat} {x : Int} (h : xs[k]? = some x) : txts xs (k + 1) = txts xs k ++ [setTxtOf x] := by
  unfold txts
  rw [take_snoc _ _ _ h, List.map_append]
  rfl
theorem txts_len (xs : List Int) (k : Nat) : (txts xs k).length ≤ xs.length := by
  unfold txts
  rw [List.length_map, List.length_take]
  omega
theorem txts_all {xs : List Int} {k : Nat} (h : xs.length ≤ k) : txts xs k = xs.map setTxtOf := by
  unfold txts
  rw [take_all _ _ h]

theorem setsTextS (v : Value) (xs : List Int) (w : World) (h : IntsAt w w.heap.size v xs) (hl : xs.length ≤ 1073741824) :
    Calls Try.prog 25 #[v] w fun e w' => RetS w (setsTxt xs) e w' := by
  obtain ⟨A, c, rfl, hc, he⟩ := form_ h
  have He := hide he
  clear h he hc
  go_enter Try.func25, Try.ntmps25
  go_wp2
  have Ho0 : Hid (OwnV 9 (w.alloc (.cells #[] 9)) w.heap.size (.slice (some ⟨w.heap.size, 0, none⟩) 0 0) (strsV (txts xs 0))) := own_empty _ _
  have Hb0 := hide (below_alloc w (.cells #[] 9))
  go_loopw [3, 4] (fun u5 i wr => ∃ k : Nat, k ≤ xs.length ∧ i = .int .i64 k ∧ Hid (OwnV 9 wr w.heap.size u5 (strsV (txts xs k))) ∧ Hid (Below w.heap.size w wr)) (fun _ i _ => xs.length - (intOf i).toNat)
  case atStart => exact ⟨0, by omega, rfl, Ho0, Hb0⟩
  case round =>
    obtain ⟨k, hk, rfl, hown, hb⟩ := hrel
    by_cases hlt : k < xs.length
    · obtain ⟨b, o, x, rfl, hbb, hx, hcell0⟩ := He.out k hlt
      have hcell := (hb.out.cell (p := ⟨b, o + k, none⟩) hbb).trans hcell0
      have Hx := hide (txts_snoc hx)
      have hln := txts_len xs k
      clear hcell0 hx
      go_wp2_with fail
      refine (setTextS x wr).mono ?_
      rintro e w4 ⟨rfl, b4⟩
      have Hb4 := hide (hb.out.trans (b4.mono hb.out.size))
      have ho4 := own_below hown.out b4
      have hlen : (strsV (txts xs k)).length < 17179869184 := by rw [strsV_length]; omega
      have hsz := Hb4.out.size
      clear b4 hcell
      go_wp2_with (at_builtin; refine wpList_appV ho4 (.string ⟨(setTxtOf x).toArray⟩) (.string ⟨#[]⟩) 16 Try.underlying25 infoS rfl (by decide) rfl rfl _ _ rfl rfl rfl hlen hsz ?_; intro v' w5 hown5 hb5 _)
      have Hown5 : Hid (OwnV 9 w5 w.heap.size v' (strsV (txts xs (k + 1)))) := by show OwnV _ _ _ _ _; rw [Hx.out, strsV_snoc]; exact hown5
      have Hb5 : Hid (Below w.heap.size w w5) := Hb4.out.trans hb5
      go_wp2
      go_roundw
      case rel => exact ⟨k + 1, by omega, by go_num, Hown5, Hb5⟩
      case measure => simp [intOf]; omega
    · have hk2 : xs.length ≤ k := by omega
      have ho := hown.out
      rw [txts_all hk2] at ho
      have Ho := hide ho
      have Hbd := hide (txts_bound xs hl)
      clear ho hown
      go_wp2_with fail
      refine (joinS _ (xs.map setTxtOf) [44] wr (own_reads Ho.out) (by rw [List.length_map]; omega) Hbd.out).mono ?_
      rintro e w6 ⟨rfl, b6⟩
      have B6 := hide (hb.out.trans (b6.mono hb.out.size))
      go_wp2
      go_ret
      exact ⟨rfl, B6.out⟩

theorem setsTextI (v : Value) (xs : List Int) (w : World) (h : IntsAt w w.heap.size v xs) (hl : xs.length ≤ 1073741824) :
    Calls Try.prog 27 #[v] w fun e w' => RetS w (setsTxt xs) e w' := by
  obtain ⟨A, c, rfl, hc, he⟩ := form_ h
  have He := hide he
  clear h he hc
  obtain ⟨i0, hi, hz0, hz1, hz2⟩ := info_parts infoS
  have hby : i0.bytes * xs.length ≤ 281474976710656 := by rw [hz2]; omega
  have hml : xs.length ≤ maxLen := by unfold maxLen; omega
  go_enter Try.func27, Try.ntmps27
  go_wp2_with (at_make; refine wpList_make_own _ rfl _ _ 25 rfl w.heap.size 9 i0 (.string ⟨#[]⟩) 1 Try.underlying25 hi hz0 hz1 .i64 .i64 _ xs.length rfl rfl rfl hby hml (Nat.le_refl _) ?_; intro w1 hown1 hg1)
  have Ho0 : Hid (OwnV 9 w1 w.heap.size (.slice (some ⟨w.heap.size, 0, none⟩) 0 xs.length) (strsV (txts xs 0))) := hown1
  have Hb0 : Hid (Below w.heap.size w w1) := grown_below hg1 (Nat.le_refl _) (fun k hk => by cases hk)
  clear hown1 hg1 hi hz0 hz1 hz2 hby hml
  go_loopw [3, 5, 11] (fun u5 _ i wr => ∃ k : Nat, k ≤ xs.length ∧ i = .int .i64 k ∧ Hid (OwnV 9 wr w.heap.size u5 (strsV (txts xs k))) ∧ Hid (Below w.heap.size w wr)) (fun _ _ i _ => xs.length - (intOf i).toNat)
  case atStart => exact ⟨0, by omega, rfl, Ho0, Hb0⟩
  case round =>
    obtain ⟨k, hk, rfl, hown, hb⟩ := hrel
    by_cases hlt : k < xs.length
    · obtain ⟨b, o, x, rfl, hbb, hx, hcell0⟩ := He.out k hlt
      have hcell := (hb.out.cell (p := ⟨b, o + k, none⟩) hbb).trans hcell0
      have Hx := hide (txts_snoc hx)
      have hln := txts_len xs k
      clear hcell0 hx
      go_wp2_with fail
      refine (setTextI x wr).mono ?_
      rintro e w4 ⟨rfl, b4⟩
      have Hb4 := hide (hb.out.trans (b4.mono hb.out.size))
      have ho4 := own_below hown.out b4
      have hlen : (strsV (txts xs k)).length < 17179869184 := by rw [strsV_length]; omega
      have hsz := Hb4.out.size
      clear b4 hcell
      go_wp2_with (at_builtin; refine wpList_appV ho4 (.string ⟨(setTxtOf x).toArray⟩) (.string ⟨#[]⟩) 16 Try.underlying25 infoS rfl (by decide) rfl rfl _ _ rfl rfl rfl hlen hsz ?_; intro v' w5 hown5 hb5 _)
      have Hown5 : Hid (OwnV 9 w5 w.heap.size v' (strsV (txts xs (k + 1)))) := by show OwnV _ _ _ _ _; rw [Hx.out, strsV_snoc]; exact hown5
      have Hb5 : Hid (Below w.heap.size w w5) := Hb4.out.trans hb5
      go_wp2
      go_roundw
      case rel => exact ⟨k + 1, by omega, by go_num, Hown5, Hb5⟩
      case measure => simp [intOf]; omega
    · have hk2 : xs.length ≤ k := by omega
      have ho := hown.out
      rw [txts_all hk2] at ho
      have hbd := txts_bound xs hl
      have Hc : Hid (∀ u, OwnV 9 wr w.heap.size u (strsV (xs.map setTxtOf)) → Calls Try.prog 103 #[u, .string ⟨([44] : List UInt8).toArray⟩] wr fun e w' => RetS wr (setsTxt xs) e w') := fun u hu => stringsJoinV u (xs.map setTxtOf) [44] wr (own_reads hu) (by rw [List.length_map]; omega) hbd
      have Ho := hide ho
      clear ho hown hbd
      go_wp2_with fail
      refine (Hc.out _ Ho.out).mono ?_
      rintro e w6 ⟨rfl, b6⟩
      have B6 := hide (hb.out.trans (b6.mono hb.out.size))
      go_wp2
      go_ret
      exact ⟨rfl, B6.out⟩

/-! ### the laws' helpers on lists of strings -/
def szOf (ls : List (List UInt8)) : Nat := ls.length + Lib.lens ls
theorem lens_split (ls : List (List UInt8)) (k : Nat) : Lib.lens (ls.take k) ≤ Lib.lens ls := Lib.lens_take_le ls k
theorem szStringS_any (v : Value) (ls : List (List UInt8)) (left : Int) (w : World) (h : StrsAt w w.heap.size v ls) (hl : ls.length ≤ 9223372036854775807) (hls : ∀ l ∈ ls, l.length ≤ 9223372036854775807) (h0 : 0 ≤ left) (h1 : left ≤ 1048576) :
    Calls Try.prog 16 #[v, .int .i64 left] w fun e w' => RetN w (if left < szOf ls then -1 else left - szOf ls) e w' := by
  obtain ⟨A, c, rfl, hc, he⟩ := formS_ h
  have He := hide he
  have Hls := hide hls
  clear h hc he hls
  by_cases hlt : left < ls.length
  · have e : left < szOf ls := by unfold szOf; omega
    rw [if_pos e]
    clear e
    go_enter Try.func16, Try.ntmps16
    go_wp2
    go_ret
    exact ⟨rfl, Below.refl _ _⟩
  · have hge : ls.length ≤ left := by omega
    generalize hr : (if left < szOf ls then -1 else left - szOf ls) = r
    have Hr := hide hr
    clear hlt hr
    go_enter Try.func16, Try.ntmps16
    go_wp2
    go_loop [1, 5] (fun r i => ∃ k : Nat, k ≤ ls.length ∧ i = .int .i64 k ∧ Lib.lens (ls.take k) ≤ left - ls.length ∧ r = .int .i64 (left - ls.length - Lib.lens (ls.take k))) (fun _ i => ls.length - (intOf i).toNat)
    case atStart => exact ⟨0, by omega, rfl, by simp [Lib.lens]; omega, by simp [Lib.lens]⟩
    case round =>
      obtain ⟨k, hk, rfl, hle, rfl⟩ := hrel
      by_cases hlt : k < ls.length
      · obtain ⟨b, o, y, rfl, hbb, hy, hcell⟩ := He.out k hlt
        have hs := Lib.lens_take_succ ls k y hy
        have hyl := Hls.out y (List.mem_of_getElem? hy)
        have hle2 := lens_split ls (k + 1)
        rw [hs] at hle2
        have Hs := hide hs
        clear hs hy
        by_cases hfit : (Lib.lens (ls.take k) : Int) + y.length ≤ left - ls.length
        · go_wp2
          go_round
          case rel => exact ⟨k + 1, by omega, by go_num, by rw [Hs.out]; omega, by rw [Hs.out]; congr 1; omega⟩
          case measure => simp [intOf]; omega
        · have hneg : left < szOf ls := by unfold szOf; omega
          have Hneg := hide hneg
          clear hneg
          go_wp2
          go_ret
          exact ⟨ret_int (by rw [← Hr.out, if_pos Hneg.out]), Below.refl _ _⟩
      · have hk2 : ls.length ≤ k := by omega
        have Ht := hide (take_all ls k hk2)
        have Hle := hide hle
        go_wp2
        go_ret
        refine ⟨ret_int ?_, Below.refl _ _⟩
        have hle := Hle.out
        rw [Ht.out] at hle ⊢
        rw [← Hr.out, if_neg (by unfold szOf; omega)]
        unfold szOf
        omega
theorem copiedS_set (xs : List (List UInt8)) (i : Nat) (x : List UInt8) (h : xs[i]? = some x) : (xs.take i ++ List.replicate (xs.length - i) []).set i x = xs.take (i + 1) ++ List.replicate (xs.length - (i + 1)) [] := by
  have hl := (List.getElem?_eq_some_iff.1 h).1
  have ht : (xs.take i).length = i := by rw [List.length_take]; omega
  rw [List.set_append_right _ _ (by omega), ht, Nat.sub_self, show xs.length - i = (xs.length - (i + 1)) + 1 by omega, List.replicate_succ, List.set_cons_zero, take_snoc _ _ _ h]
  simp
theorem copiedS_len (xs : List (List UInt8)) (i : Nat) (h : i ≤ xs.length) : (xs.take i ++ List.replicate (xs.length - i) ([] : List UInt8)).length = xs.length := by
  rw [List.length_append, List.length_take, List.length_replicate]
  omega
theorem toStringS_any (v : Value) (xs : List (List UInt8)) (w : World) (h : StrsAt w w.heap.size v xs) (hl : xs.length ≤ 1073741824) :
    Calls Try.prog 18 #[v] w fun e w' => RetSs 9 w xs e w' := by
  obtain ⟨A, c, rfl, hc, he⟩ := formS_ h
  have He := hide he
  clear h he
  go_enter Try.func18, Try.ntmps18
  go_wp2_with (at_make; refine wpList_makeV (.string ⟨#[]⟩) 16 xs.length Try.underlying25 infoS rfl (by decide) (by omega) rfl _ _ rfl rfl rfl ?_; intro w1 hown1 hb1)
  have hown : OwnV 9 w1 w.heap.size (.slice (some ⟨w.heap.size, 0, none⟩) xs.length xs.length) (strsV (xs.take 0 ++ List.replicate (xs.length - 0) [])) := by simpa [strsV] using hown1
  have Hown := hide hown
  have Hb1 := hide hb1
  clear hown hown1 hb1
  go_loopw [4] (fun i wr => ∃ k : Nat, k ≤ xs.length ∧ i = .int .i64 k ∧ OwnV 9 wr w.heap.size (.slice (some ⟨w.heap.size, 0, none⟩) xs.length xs.length) (strsV (xs.take k ++ List.replicate (xs.length - k) [])) ∧ Below w.heap.size w wr) (fun i _ => xs.length - (intOf i).toNat)
  case atStart => exact ⟨0, by omega, rfl, Hown.out, Hb1.out⟩
  case round =>
    obtain ⟨k, hk, rfl, hown, hb⟩ := hrel
    by_cases hlt : k < xs.length
    · obtain ⟨b, o, x, rfl, hbb, hx, hcx0⟩ := He.out k hlt
      have hcx : wr.cell? ⟨b, o + k, none⟩ = some (.string ⟨x.toArray⟩) := (hb.cell (p := ⟨b, o + k, none⟩) hbb).trans hcx0
      have hcl := copiedS_len xs k hk
      have hcs := copiedS_set xs k x hx
      have hvv : Value.slice (some ⟨w.heap.size, 0, none⟩) xs.length xs.length = .slice (some ⟨w.heap.size, 0, none⟩) (strsV (xs.take k ++ List.replicate (xs.length - k) [])).length xs.length := by rw [strsV_length, hcl]
      obtain ⟨u, hu⟩ : ∃ u, (strsV (xs.take k ++ List.replicate (xs.length - k) []))[k]? = some u := ⟨_, List.getElem?_eq_getElem (by rw [strsV_length, hcl]; omega)⟩
      obtain ⟨hc1, hf1⟩ := own_cell hown hvv hu
      have hset := own_set hown hvv k (.string ⟨x.toArray⟩)
      have es : (strsV (xs.take k ++ List.replicate (xs.length - k) [])).set k (.string ⟨x.toArray⟩) = strsV (xs.take (k + 1) ++ List.replicate (xs.length - (k + 1)) []) := by rw [← hcs]; simp [strsV, List.map_set]
      rw [es] at hset
      have Hs := hide hset
      have Hb : Hid (Below w.heap.size w (wr.setCell ⟨w.heap.size, k, none⟩ (.string ⟨x.toArray⟩))) := hb.setCell (by exact Nat.le_refl _) _
      clear hset es hvv hu hown hb hcl hcs hx hcx0
      go_wp2
      go_roundw
      case rel => exact ⟨k + 1, by omega, by go_num, Hs.out, Hb.out⟩
      case measure => simp [intOf]; omega
    · have hk2 := hide (show k = xs.length by omega)
      have hge : xs.length ≤ k := by omega
      go_wp2
      go_ret
      refine ⟨_, rfl, ?_, hb⟩
      have := hown
      rw [take_all _ _ hge, show xs.length - k = 0 by omega, List.replicate_zero, List.append_nil] at this
      exact this
end Go.Proofs.Ytmkacjpjcfffmaa
