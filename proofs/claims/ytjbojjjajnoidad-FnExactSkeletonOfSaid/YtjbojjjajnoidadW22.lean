/- Walks: the reference's l5Set, l5Inside, InducedOf. Printed by gen/w22.py. -/
import Derived.Test.YtjbojjjajnoidadW21
namespace Go.Proofs.Ytjbojjjajnoidad
open Go.RowKit

theorem l5SetS (n : Int) (v : Value) (xs : List Int) (t : Int) (w : World) (h : IntsAt w w.heap.size v xs) (hl : xs.length ≤ 1073741824) :
    Calls Try.prog 85 #[.agg #[.int .i64 n, v], .int .i64 t] w fun e w' => RetB w (setOk n xs t) e w' := by
  obtain ⟨A, c, rfl⟩ := reads_shape h
  obtain ⟨w1, hW1, at1, b1, z1⟩ := boxC w (.int .i64 n) (.slice A xs.length c) 26
  have r1 := now_ h b1
  have At1 := hide at1
  obtain ⟨e1_0, e1_1⟩ := at1
  have B1 := hide b1
  have R1 := hide r1
  clear h b1 r1
  cases hcx : isCx n xs
  · have Hcx := hide hcx
    clear hcx
    go_enter Try.func85, Try.ntmps85
    go_wp2_with fail
    clear hW1
    refine (isComplexS n _ xs w1 R1.out hl).mono ?_
    rw [Hcx.out]
    rintro e w2 ⟨rfl, b2⟩
    have B2 := hide (nxt B1.out b2)
    go_wp2
    go_ret
    exact ⟨ret_bool (by unfold setOk; rw [Hcx.out]; rfl), B2.out⟩
  · have Hcx := hide hcx
    clear hcx
    go_enter Try.func85, Try.ntmps85
    go_wp2_with fail
    clear hW1
    refine (isComplexS n _ xs w1 R1.out hl).mono ?_
    rw [Hcx.out]
    rintro e w2 ⟨rfl, b2⟩
    have B2 := hide (nxt B1.out b2)
    obtain ⟨e2_0, e2_1⟩ := At1.out.to b2
    clear e1_0 e1_1
    go_wp2_with (go_at_call 68; refine (isSetS _ _ _).mono ?_; rintro e wx ⟨rfl, rfl⟩)
    go_ret
    exact ⟨ret_bool (by unfold setOk; rw [Hcx.out]; rfl), B2.out⟩

def insides (s : Nat) (xs : List Int) : List Nat := xs.map (fun x => x.toNat &&& s)
theorem insides_len (s : Nat) (xs : List Int) : (insides s xs).length ≤ xs.length := by simp [insides]
theorem insides_yes (s : Nat) (xs : List Int) (x : Nat) : insides s (xs ++ [(x : Int)]) = insides s xs ++ [x &&& s] := by simp [insides]
theorem insides_all {xs : List Int} {s : Nat} (_h : ∀ x ∈ xs, 0 ≤ x ∧ x < 64) (hs : s < 64) : allSets (zs (insides s xs)) = true := by
  refine List.all_eq_true.2 fun x hx => decide_eq_true ?_
  obtain ⟨m, hm, rfl⟩ := List.mem_map.1 hx
  obtain ⟨y, _, rfl⟩ := List.mem_map.1 hm
  have h : y.toNat &&& s ≤ s := Nat.and_le_right
  constructor
  · show (0 : Int) ≤ ((y.toNat &&& s : Nat) : Int); omega
  · show ((y.toNat &&& s : Nat) : Int) < 64; omega

theorem l5InsideS (n : Int) (v : Value) (xs : List Int) (s : Nat) (w : World) (h : IntsAt w w.heap.size v xs) (hl : xs.length ≤ 1048576) (hcx : isCx n xs = true) (hs : s < 64) :
    Calls Try.prog 119 #[.agg #[.int .i64 n, v], .int .i64 (s : Int)] w fun e w' => RetC 3 w n (zs (maxOf (inList (zs (insides s xs))))) e w' := by
  obtain ⟨A, c, rfl⟩ := reads_shape h
  obtain ⟨w1, hW1, at1, b1, z1⟩ := boxC w (.int .i64 n) (.slice A xs.length c) 26
  obtain ⟨w2, hW2, at2, rs2, b2, z2⟩ := boxRes w1 26
  have b02 := nxt b1 b2
  have He := hide (cxElems (now_ h b02) hcx)
  have At1 := hide (at1.to b2)
  have Rs2 := hide rs2
  have B2 := hide b02
  have hr2 := rs2.lt
  have hle : w.heap.size ≤ w1.heap.size := by omega
  have Hle := hide hle
  clear h at1 at2 rs2 b1 b2 b02 z1 z2 hle
  go_enter Try.func119, Try.ntmps119
  go_wp2_with fail
  clear hW1 hW2
  obtain ⟨ho, hbw⟩ : OwnV 3 (w2.alloc (.cells #[] 3)) w2.heap.size (.slice (some ⟨w2.heap.size, 0, none⟩) 0 0) (ints (zs (insides s (xs.take 0)))) ∧ Below w2.heap.size w2 (w2.alloc (.cells #[] 3)) := ⟨own_empty _ _, below_alloc _ _⟩
  have Ho := hide ho
  have Hbw := hide hbw
  clear ho hbw
  go_loopw [5, 6] (fun v i wr => ∃ k : Nat, k ≤ xs.length ∧ i = .int .i64 k ∧ Hid (OwnV 3 wr w2.heap.size v (ints (zs (insides s (xs.take k))))) ∧ Hid (Below w2.heap.size w2 wr)) (fun _ i _ => xs.length - (intOf i).toNat)
  case atStart => exact ⟨0, by omega, rfl, Ho, Hbw⟩
  case round =>
    obtain ⟨k, hk, rfl, hown, hb⟩ := hrel
    obtain ⟨e1, e2⟩ := At1.out.to hb.out
    by_cases hlt : k < xs.length
    · obtain ⟨b, o, x, ⟨c', hv⟩, hx, hx64, hcell0⟩ := He.out k hlt
      cases hv
      have hcell := (hb.out.cell (World.block_lt_of_cell? _ _ hcell0)).trans hcell0
      have Ht := hide (take_snoc _ _ _ hx)
      have hlen : (zs (insides s (xs.take k))).length < 17179869184 := by
        have h1 := insides_len s (xs.take k)
        have h2 := List.length_take_le k xs
        rw [List.length_map]; omega
      have hsz := hb.out.size
      have ho := hown.out
      have hand := i64_and x s (by omega) (by omega)
      clear hx hcell0
      go_wp2_with (at_builtin; refine wpList_appI ho (((x &&& s : Nat) : Int)) Try.underlying22 infoI rfl _ _ rfl rfl rfl hlen hsz ?_; intro v' w5 hown5 hb5 hg5)
      have Hown5 : Hid (OwnV 3 w5 w2.heap.size v' (ints (zs (insides s (xs.take (k + 1)))))) := by show OwnV _ _ _ _ _; rw [Ht.out, insides_yes, zs_snoc]; exact hown5
      have Hb5 : Hid (Below w2.heap.size w2 w5) := hb.out.trans hb5
      go_wp2
      go_roundw
      case rel => exact ⟨k + 1, by omega, by go_num, Hown5, Hb5⟩
      case measure => simp [intOf]; omega
    · have hk2 : xs.length ≤ k := by omega
      have Ht := hide (take_all xs k hk2)
      have hlen : (zs (insides s xs)).length ≤ 1073741824 := by
        have h1 := insides_len s xs
        rw [List.length_map]; omega
      have hown2 := hown.out
      rw [Ht.out] at hown2
      have Hown := hide hown2
      have Hall := hide (insides_all (xs := xs) (isCx_sets hcx) hs)
      clear hown hown2
      go_wp2_with fail
      refine (l3MakeS n _ (zs (insides s xs)) wr (own_reads Hown.out) hlen Hall.out).mono ?_
      rintro e w4 ⟨v', rfl, o4, b4⟩
      obtain ⟨A', c', rfl⟩ := own_shape o4
      obtain ⟨h90, f90, f91⟩ := (Rs2.out.to hb.out).to b4
      obtain ⟨q0, q1, h90, h91⟩ := h90
      have h9r := ((Rs2.out.to hb.out).to b4).lt
      have Hfar := hide (fun k hk => Nat.lt_of_lt_of_le (Rs2.out.to hb.out).lt (own_block o4 k hk).1)
      have Ho4 := hide (own_mono o4 (nxt B2.out hb.out).size)
      have Hb4 := hide (nxt (nxt B2.out hb.out) b4)
      clear o4 b4
      go_wp2
      refine bodyPost_ret (v := .agg #[.int .i64 n, .slice A' (zs (maxOf (inList (zs (insides s xs))))).length c']) (by simp [results, Try.results119, go_sem, h90, h91]) rfl ?_
      exact ⟨_, rfl, own_setNe (own_setNe Ho4.out (fun k hk => by have := Hfar.out k hk; omega) _ _) (fun k hk => by have := Hfar.out k hk; omega) _ _, below_store Hb4.out Hle.out _ _⟩

end Go.Proofs.Ytjbojjjajnoidad
