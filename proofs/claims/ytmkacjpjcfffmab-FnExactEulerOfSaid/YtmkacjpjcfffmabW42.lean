/- Walks: bySize, FacesOfSize, countBySize, FaceCounts, EulerOf in the program. -/
import Derived.Test.YtmkacjpjcfffmabW40
namespace Go.Proofs.Ytmkacjpjcfffmab
open Go.RowKit

theorem infoSl : (Try.prog.info? 22).map (fun i => (i.zero, i.size, i.bytes)) = some (some (.slice none 0 0), 1, 24) := by kernel_rfl
theorem own_shape3 {e : TypeId} {w : World} {B : Nat} {v : Value} {xs : List Int} (h : OwnV e w B v (ints xs)) : ∃ A n c, v = .slice A n c := by
  obtain ⟨A, c, hv, _⟩ := form_ (own_reads h)
  exact ⟨A, _, c, hv⟩
theorem topOf_nat (P : Nat → Bool) : ∃ m : Nat, topOf P = (m : Int) - 1 ∧ m ≤ 7 ∧ m = (topOf P + 1).toNat := by
  obtain ⟨h1, h2⟩ := topOf_bd P
  exact ⟨(topOf P + 1).toNat, by omega, by omega, rfl⟩
theorem facesOfSize_len (n : Int) (xs : List Int) (t : Int) : (facesOfSize n xs t).length ≤ 64 := by
  unfold facesOfSize
  split
  · split
    · exact layer_len _ _
    · simp
  · simp

theorem bySizeI (P : Nat → Bool) (m : Nat) (hm : topOf P = (m : Int) - 1) (hm7 : m ≤ 7) (w : World) :
    Calls Try.prog 42 #[.int .u64 (fam P : Int)] w fun e w' => RetRows 22 3 w m (layer P) e w' := by
  have hF := fam_lt P
  have hpcm : ∀ s, s < 64 → P s = true → pc s < m := by
    intro s hs hp
    have h1 := (topTo_spec P 64).1 s hs hp
    have h2 : topTo P 64 = (m : Int) - 1 := hm
    omega
  have Hpcm := hide hpcm
  have Hm := hide hm
  clear hpcm hm
  go_enter Try.func42, Try.ntmps42
  go_wp2_with (first | (go_at_call 51; refine (topSizeI P _).mono ?_; rw [Hm.out]; rintro e wx ⟨rfl, rfl⟩) | (at_make; refine wpList_makeV (.slice none 0 0) 24 m Try.underlying47 infoSl rfl (by decide) (by omega) rfl _ _ rfl rfl rfl ?_; intro w1 hown1 hb1))
  have Rw0 : Hid (∃ V, RowsOf 22 3 w1 w.heap.size w.heap.size m V (fun j => layTo P j 0)) := ⟨_, (RowsOf.start hown1).congr fun j _ => rfl⟩
  have Hb1 := hide hb1
  clear hown1 hb1
  go_loopw [4, 5] (fun i _ wr => ∃ k : Nat, k ≤ 64 ∧ i = .int .i64 k ∧ Hid (∃ V, RowsOf 22 3 wr w.heap.size w.heap.size m V (fun j => layTo P j k)) ∧ Hid (Below w.heap.size w wr)) (fun i _ _ => 64 - (intOf i).toNat)
  case atStart => exact ⟨0, by omega, rfl, Rw0, Hb1⟩
  case round =>
    obtain ⟨k, hk, rfl, hrw, hb⟩ := hrel
    by_cases hlt : k < 64
    · have hbit := fam_bit P k
      rw [decide_eq_true hlt, Bool.true_and] at hbit
      have hsz := sizeOf_yes hlt
      have Hsz := hide hsz
      cases hp : P k
      · rw [hp] at hbit
        have Hno : Hid (∃ V, RowsOf 22 3 wr w.heap.size w.heap.size m V (fun j => layTo P j (k + 1))) := by
          obtain ⟨V, h⟩ := hrw.out
          exact ⟨V, h.congr fun j _ => (layTo_no (by rw [hp]; simp)).symm⟩
        have Hbit := hide hbit
        clear hp hbit hsz
        go_wp2_with (go_at_call 52; refine (hasSetI _ k hF hlt _).mono ?_; rw [Hbit.out]; rintro e wx ⟨rfl, rfl⟩)
        go_roundw
        case rel => exact ⟨k + 1, by omega, by go_num, Hno, hb⟩
        case measure => simp [intOf]; omega
      · rw [hp] at hbit
        obtain ⟨V, hV⟩ := hrw.out
        have hpm := Hpcm.out k hlt hp
        have hpc6 := pc_le6 k hlt
        have ho := hV.row (pc k) hpm
        obtain ⟨hcell, _⟩ := hV.cell hpm
        have HV := hide hV
        have Hp := hide hp
        have Hbit := hide hbit
        have hlen : (zs (layTo P (pc k) k)).length < 17179869184 := by have := layTo_len P (pc k) k; rw [List.length_map]; omega
        have hsz2 := hb.out.size
        have hV0 := (hV.lt).2
        clear hp hbit hsz hrw hV
        go_wp2_with (first | (at_builtin; refine wpList_appAt ho (k : Int) Try.underlying22 infoI rfl _ _ rfl rfl rfl hlen hsz2 ?_; intro v' w5 hown5 hb5 hg5 hat5; obtain ⟨hc5, hf5⟩ := HV.out.storeAt hpm hg5; obtain ⟨A5, n5, c5, rfl⟩ := own_shape3 hown5) | (go_at_call 52; refine (hasSetI _ k hF hlt _).mono ?_; rw [Hbit.out]; rintro e wx ⟨rfl, rfl⟩) | (go_at_call 53; refine (sizeOfI _ _).mono ?_; rw [Hsz.out]; rintro e wx ⟨rfl, rfl⟩))
        have Hst : Hid (∃ V, RowsOf 22 3 (w5.setCell ⟨w.heap.size, pc k, none⟩ (.slice A5 n5 c5)) w.heap.size w.heap.size m V (fun j => layTo P j (k + 1))) := by
          refine ⟨_, (HV.out.step hpm hown5 hg5 hat5).congr fun j _ => ?_⟩
          by_cases e : j = pc k
          · subst e
            simp only [if_true]
            exact (layTo_yes Hp.out rfl).symm
          · simp only [if_neg e]
            exact (layTo_no (fun h => e h.2.symm)).symm
        have Hbb : Hid (Below w.heap.size w (w5.setCell ⟨w.heap.size, pc k, none⟩ (.slice A5 n5 c5))) := (hb.out.trans hb5).setCell (Nat.le_refl _) _
        go_roundw
        case rel => exact ⟨k + 1, by omega, by go_num, Hst, Hbb⟩
        case measure => simp [intOf]; omega
    · obtain rfl : k = 64 := by omega
      obtain ⟨V, hV⟩ := hrw.out
      have HV : Hid (RowsOf 22 3 wr w.heap.size w.heap.size m V (layer P)) := hV.congr fun j _ => layTo_all P j
      clear hrw hV
      go_wp2
      go_ret
      exact ⟨_, V, rfl, HV.out, hb.out⟩

theorem facesOfSizeI (n : Int) (v : Value) (xs : List Int) (t : Int) (w : World) (h : IntsAt w w.heap.size v xs) (hl : xs.length ≤ 1073741824) :
    Calls Try.prog 17 #[.agg #[.int .i64 n, v], .int .i64 t] w fun e w' => RetI 3 w (zs (facesOfSize n xs t)) e w' := by
  obtain ⟨A, c, rfl⟩ := reads_shape h
  obtain ⟨w1, hW1, at1, b1, z1⟩ := boxC w (.int .i64 n) (.slice A xs.length c) 27
  have r1 := now_ h b1
  have At1 := hide at1
  obtain ⟨e1_0, e1_1⟩ := at1
  have B1 := hide b1
  have R1 := hide r1
  clear h b1 r1 z1
  cases hcx : isCx n xs
  · have Hfin : Hid (facesOfSize n xs t = []) := by show _ = _; unfold facesOfSize; rw [hcx]; rfl
    have Hcx := hide hcx
    clear hcx
    go_enter Try.func17, Try.ntmps17
    go_wp2_with fail
    clear hW1
    refine (isComplexI n _ xs w1 R1.out hl).mono ?_
    rw [Hcx.out]
    rintro e w2 ⟨rfl, b2⟩
    have B2 := hide (nxt B1.out b2)
    go_wp2
    go_ret
    exact ⟨_, rfl, by rw [Hfin.out]; exact own_nil _ _, B2.out⟩
  · have Hcx := hide hcx
    clear hcx
    obtain ⟨m, hm, hm7, _⟩ := topOf_nat (faceP xs)
    have Hm := hide hm
    by_cases ht : 0 ≤ t ∧ t < (m : Int)
    · obtain ⟨j, rfl⟩ := Int.eq_ofNat_of_zero_le ht.1
      have hj : j < m := by omega
      have Hfin : Hid (facesOfSize n xs (j : Int) = layer (faceP xs) j) := by show _ = _; unfold facesOfSize; rw [Hcx.out, if_pos rfl, if_pos (by omega)]; rfl
      clear hm ht
      go_enter Try.func17, Try.ntmps17
      go_wp2_with fail
      clear hW1
      refine (isComplexI n _ xs w1 R1.out hl).mono ?_
      rw [Hcx.out]
      rintro e w2 ⟨rfl, b2⟩
      have B2 := hide (nxt B1.out b2)
      have R2 := hide (now_ R1.out b2)
      obtain ⟨e2_0, e2_1⟩ := At1.out.to b2
      clear e1_0 e1_1 b2
      go_wp2_with fail
      refine (facesInI n _ xs _ R2.out hl Hcx.out).mono ?_
      rintro e w3 ⟨rfl, b3⟩
      have B3 := hide (nxt B2.out b3)
      clear b3
      go_wp2_with fail
      refine (bySizeI (faceP xs) m Hm.out hm7 w3).mono ?_
      rintro e w4 ⟨g, V, rfl, hV, b4⟩
      have B4 := hide (nxt B3.out b4)
      obtain ⟨hcell, _⟩ := hV.cell hj
      have hro := hV.row j hj
      have Hro := hide (own_mono hro B3.out.size)
      clear hV b4 hro
      go_wp2
      go_ret
      exact ⟨_, rfl, by rw [Hfin.out]; exact Hro.out, B4.out⟩
    · have Hfin : Hid (facesOfSize n xs t = []) := by
        show _ = _
        unfold facesOfSize
        rw [Hcx.out, if_pos rfl]
        split
        · exact layer_above (by omega)
        · rfl
      clear hm
      have ht2 : t < 0 ∨ (m : Int) ≤ t := by omega
      clear ht
      rcases ht2 with ht | ht
      · go_enter Try.func17, Try.ntmps17
        go_wp2_with fail
        clear hW1
        refine (isComplexI n _ xs w1 R1.out hl).mono ?_
        rw [Hcx.out]
        rintro e w2 ⟨rfl, b2⟩
        have B2 := hide (nxt B1.out b2)
        have R2 := hide (now_ R1.out b2)
        obtain ⟨e2_0, e2_1⟩ := At1.out.to b2
        clear e1_0 e1_1 b2
        go_wp2_with fail
        refine (facesInI n _ xs _ R2.out hl Hcx.out).mono ?_
        rintro e w3 ⟨rfl, b3⟩
        have B3 := hide (nxt B2.out b3)
        clear b3
        go_wp2_with fail
        refine (bySizeI (faceP xs) m Hm.out hm7 w3).mono ?_
        rintro e w4 ⟨g, V, rfl, hV, b4⟩
        have B4 := hide (nxt B3.out b4)
        clear hV b4
        go_wp2
        go_ret
        exact ⟨_, rfl, by rw [Hfin.out]; exact own_nil _ _, B4.out⟩
      · have ht0 : ¬ t < 0 := by omega
        go_enter Try.func17, Try.ntmps17
        go_wp2_with fail
        clear hW1
        refine (isComplexI n _ xs w1 R1.out hl).mono ?_
        rw [Hcx.out]
        rintro e w2 ⟨rfl, b2⟩
        have B2 := hide (nxt B1.out b2)
        have R2 := hide (now_ R1.out b2)
        obtain ⟨e2_0, e2_1⟩ := At1.out.to b2
        clear e1_0 e1_1 b2
        go_wp2_with fail
        refine (facesInI n _ xs _ R2.out hl Hcx.out).mono ?_
        rintro e w3 ⟨rfl, b3⟩
        have B3 := hide (nxt B2.out b3)
        clear b3
        go_wp2_with fail
        refine (bySizeI (faceP xs) m Hm.out hm7 w3).mono ?_
        rintro e w4 ⟨g, V, rfl, hV, b4⟩
        have B4 := hide (nxt B3.out b4)
        clear hV b4
        go_wp2
        go_ret
        exact ⟨_, rfl, by rw [Hfin.out]; exact own_nil _ _, B4.out⟩
end Go.Proofs.Ytmkacjpjcfffmab
