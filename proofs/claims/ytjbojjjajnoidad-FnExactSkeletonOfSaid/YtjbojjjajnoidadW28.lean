/- Walks: SkeletonOf in the program; pickSets for a closure that draws. -/
import Derived.Test.YtjbojjjajnoidadW17
import Derived.Test.YtjbojjjajnoidadW24
namespace Go.Proofs.Ytjbojjjajnoidad
open Go.RowKit

set_option maxRecDepth 100000 in
theorem pickSetsD (f : Nat) (caps : Array Value) (P : Nat → Bool) (w : World)
    (hcf : ∀ (args : Array Value) (W : World), (callFunc f args).run Try.prog W = .ok (.enter f args) W)
    (hf : ∀ s : Nat, s < 64 → ∀ q, Calls Try.prog f (#[.int .i64 (s : Int)] ++ caps) (w.drewN q) fun e w' => e = .returned (.bool (P s)) ∧ ∃ m, w' = w.drewN m) :
    Calls Try.prog 112 #[.int .i64 6, .func (.func f) #[] caps] w fun e w' => e = .returned (.int .u64 (fam P : Int)) ∧ ∃ m, w' = w.drewN m := by
  go_enter Try.func112, Try.ntmps112
  go_wp2
  go_loopw [5, 6] (fun a i wr => ∃ k q : Nat, k ≤ 64 ∧ i = .int .i64 k ∧ a = .int .u64 (fam (pickTo P k) : Int) ∧ wr = w.drewN q) (fun _ i _ => 64 - (intOf i).toNat)
  case atStart => exact ⟨0, 0, by omega, rfl, by rw [pick_zero]; rfl, rfl⟩
  case round =>
    obtain ⟨k, q, hk, rfl, rfl, rfl⟩ := hrel
    by_cases hlt : k < 64
    · have Ho := hide (or_fam (pickTo P k) k hlt)
      have Hf := hide (hf k hlt q)
      have Hcf := hide hcf
      clear hf hcf
      cases hP : P k
      · have Hn := hide (pick_no hP)
        rw [hP] at Hf
        clear hP
        go_wp2_with fail
        rw [Hcf.out]
        refine Calls.mono Hf.out ?_
        rintro e w' ⟨rfl, m, rfl⟩
        go_wp2
        go_roundw
        case rel => exact ⟨k + 1, _, by omega, by go_num, by rw [Hn.out], rfl⟩
        case measure => simp [intOf]; omega
      · have Hy := hide (pick_yes hP)
        rw [hP] at Hf
        clear hP
        go_wp2_with fail
        rw [Hcf.out]
        refine Calls.mono Hf.out ?_
        rintro e w' ⟨rfl, m, rfl⟩
        go_wp2
        go_roundw
        case rel => exact ⟨k + 1, _, by omega, by go_num, by rw [← Hy.out, ← Ho.out], rfl⟩
        case measure => simp [intOf]; omega
    · obtain rfl : k = 64 := by omega
      have H : Hid (fam (pickTo P 64) = fam P) := fam_congr (fun s hs => by unfold pickTo; rw [decide_eq_true hs]; rfl)
      go_wp2
      go_ret
      exact ⟨ret_int (by rw [H.out]), _, rfl⟩

theorem has_at (P : Nat → Bool) (t : Nat) (ht : t < 64) (w : World) : Calls Try.prog 114 #[.int .u64 (fam P : Int), .int .i64 (t : Int)] w fun e w' => e = .returned (.bool (P t)) ∧ w = w' := by
  have h := hasSetI (fam P) t (fam_lt P) ht w
  rwa [fam_bit, decide_eq_true ht, Bool.true_and] at h
theorem sizeOf_at2 (s : Nat) (hs : s < 64) (w : World) : Calls Try.prog 75 #[.int .i64 (s : Int)] w fun e w' => e = .returned (.int .i64 (pc s : Int)) ∧ w = w' := by
  have h := sizeOfI (s : Int) w
  rwa [sizeOf_yes hs] at h
def skelP (P : Nat → Bool) (k : Int) (t : Nat) : Bool := P t && decide ((pc t : Int) ≤ k)
theorem skel1I (P : Nat → Bool) (k : Int) (t : Nat) (ht : t < 64) (b1 b2 : Nat) (w : World) (q : Nat) (h1 : w.cell? ⟨b1, 0, none⟩ = some (.int .u64 (fam P : Int))) (h2 : w.cell? ⟨b2, 0, none⟩ = some (.int .i64 k)) :
    Calls Try.prog 136 #[.int .i64 (t : Int), .pointer (some ⟨b1, 0, none⟩), .pointer (some ⟨b2, 0, none⟩)] (w.drewN q) fun e w' => e = .returned (.bool (skelP P k t)) ∧ ∃ m, w' = w.drewN m := by
  cases hp : P t
  · have H : Hid (skelP P k t = false) := by show _ = _; unfold skelP; rw [hp]; rfl
    go_enter Try.func136, Try.ntmps136
    go_wp2
    go_quiet ((first | (go_at_call 114; exact quiet_add_left (has_at _ _ ht _)) | (go_at_call 75; exact quiet_add_left (sizeOf_at2 _ ht _))))
    go_wp2
    go_ret
    exact ⟨ret_bool H.out.symm, _, World.drewN_drewN ..⟩
  · have H : Hid (skelP P k t = decide ((pc t : Int) ≤ k)) := by show _ = _; unfold skelP; rw [hp]; rfl
    go_enter Try.func136, Try.ntmps136
    go_wp2
    go_quiet ((first | (go_at_call 114; exact quiet_add_left (has_at _ _ ht _)) | (go_at_call 75; exact quiet_add_left (sizeOf_at2 _ ht _))))
    go_wp2
    go_ret
    exact ⟨ret_bool H.out.symm, _, World.drewN_drewN ..⟩
theorem enter_skel1 (args : Array Value) (W : World) : (callFunc 136 args).run Try.prog W = .ok (.enter 136 args) W := call_enter Try.func136 (by kernel_rfl) rfl args W
theorem skeletonInI (P : Nat → Bool) (k : Int) (w : World) : Calls Try.prog 99 #[.int .u64 (fam P : Int), .int .i64 k] w fun e w' => e = .returned (.int .u64 (fam (skelP P k) : Int)) ∧ Below w.heap.size w w' := by
  have Hp := hide (fun (W : World) (h1 : W.cell? ⟨w.heap.size, 0, none⟩ = some (.int .u64 (fam P : Int))) (h2 : W.cell? ⟨w.heap.size + 1, 0, none⟩ = some (.int .i64 k)) => pickSetsD 136 #[.pointer (some ⟨w.heap.size, 0, none⟩), .pointer (some ⟨w.heap.size + 1, 0, none⟩)] (skelP P k) W enter_skel1 (fun t ht q => skel1I P k t ht _ _ W q h1 h2))
  go_enter Try.func99, Try.ntmps99
  go_wp2_with fail
  refine (Hp.out _ (by simp [go_sem]) (by simp [go_sem])).mono ?_
  rintro e w1 ⟨rfl, m, rfl⟩
  go_wp2
  go_ret
  exact ⟨rfl, below_drewN ((below_alloc w _).alloc (by (try simp only [World.size_alloc]); omega) _) _⟩
def skOk (n : Int) (xs : List Int) (t : Int) : Bool := isCx n xs && decide (0 ≤ t ∧ t ≤ 6)
theorem skeletonOfI (n : Int) (v : Value) (xs : List Int) (t : Int) (w : World) (h : IntsAt w w.heap.size v xs) (hl : xs.length ≤ 1073741824) :
    Calls Try.prog 17 #[.agg #[.int .i64 n, v], .int .i64 t] w fun e w' => RetCB 3 w (cbN (skOk n xs t) n) (cbXs (skOk n xs t) (maxOf (skelP (faceP xs) t))) (skOk n xs t) e w' := by
  obtain ⟨A, c, rfl⟩ := reads_shape h
  obtain ⟨w1, hW1, at1, b1, z1⟩ := boxC w (.int .i64 n) (.slice A xs.length c) 26
  obtain ⟨w2, hW2, at2, rs2, b2, z2⟩ := boxRes w1 26
  have b02 := nxt b1 b2
  have R0 := hide h
  have R2 := hide (now_ h b02)
  have at1 := at1.to b2
  have At1 := hide at1
  have Rs2 := hide rs2
  have B2 := hide b02
  have hne : w.heap.size ≠ w1.heap.size := by omega
  have Hle : Hid (w.heap.size ≤ w1.heap.size) := by show _ ≤ _; omega
  obtain ⟨e1_0, e1_1⟩ := at1
  obtain ⟨e2_0, e2_1⟩ := at2
  have At2 : Hid (AtC w2 w1.heap.size (.int .i64 0) (.slice none 0 0)) := ⟨e2_0, e2_1⟩
  clear h b1 b2 b02 z1 z2 rs2
  cases hcx : isCx n xs
  · have Hcx := hide hcx
    clear hcx
    have Hok : Hid (skOk n xs t = false) := by show _ = _; unfold skOk; rw [Hcx.out]; rfl
    go_enter Try.func17, Try.ntmps17
    go_wp2_with fail
    clear hW1 hW2
    refine (isComplexI n _ xs w2 R2.out hl).mono ?_
    rw [Hcx.out]
    rintro e w3 ⟨rfl, b3⟩
    obtain ⟨e3_0, e3_1⟩ := At2.out.to b3
    obtain ⟨_, f0, f1⟩ := Rs2.out.to b3
    have hr : w1.heap.size < w3.heap.size := (Rs2.out.to b3).lt
    have B3 := hide (nxt B2.out b3)
    clear b3 e1_0 e1_1 e2_0 e2_1
    go_wp2
    refine bodyPost_ret (v := .tuple #[.agg #[.int .i64 0, .slice none 0 0], .bool false]) (by simp [results, Try.results17, go_sem, e3_0, e3_1]) rfl ?_
    exact retCB_no Hok.out (below_store B3.out Hle.out _ _)
  · have Hcx := hide hcx
    clear hcx
    by_cases ht : 0 ≤ t ∧ t ≤ 6
    · have Hok : Hid (skOk n xs t = true) := by show _ = _; unfold skOk; rw [Hcx.out, decide_eq_true ht]; rfl
      obtain ⟨ht0, ht6⟩ := ht
      go_enter Try.func17, Try.ntmps17
      go_wp2_with fail
      clear hW1 hW2
      refine (isComplexI n _ xs w2 R2.out hl).mono ?_
      rw [Hcx.out]
      rintro e w3 ⟨rfl, b3⟩
      obtain ⟨e13_0, e13_1⟩ := At1.out.to b3
      have B3 := hide (nxt B2.out b3)
      have Sx : Hid (Below w.heap.size w w3.drew ∧ Res w1.heap.size w3.drew) := ⟨(nxt B2.out b3).drew, by have h := Rs2.out.to b3; exact h⟩
      have hK : Hid (∀ W W' : World, (AtC W w.heap.size (.int .i64 n) (.slice A xs.length c) ∧ Hid (Below w.heap.size w W ∧ Res w1.heap.size W)) → Below W.heap.size W W' → (AtC W' w.heap.size (.int .i64 n) (.slice A xs.length c) ∧ Hid (Below w.heap.size w W' ∧ Res w1.heap.size W'))) := fun W W' h k => ⟨h.1.to k, nxt h.2.1 k, h.2.2.to k⟩
      have hKs : Hid (∀ (W : World) (x y : Value), (AtC W w.heap.size (.int .i64 n) (.slice A xs.length c) ∧ Hid (Below w.heap.size w W ∧ Res w1.heap.size W)) → (AtC ((W.setCell ⟨w1.heap.size, 0, none⟩ x).setCell ⟨w1.heap.size, 1, none⟩ y) w.heap.size (.int .i64 n) (.slice A xs.length c) ∧ Hid (Below w.heap.size w ((W.setCell ⟨w1.heap.size, 0, none⟩ x).setCell ⟨w1.heap.size, 1, none⟩ y) ∧ Res w1.heap.size ((W.setCell ⟨w1.heap.size, 0, none⟩ x).setCell ⟨w1.heap.size, 1, none⟩ y)))) := fun W x y h => ⟨h.1.store hne x y, below_store h.2.1 Hle.out x y, h.2.2.store x y⟩
      clear b3 e1_0 e1_1 e2_0 e2_1
      go_wp2
      go_region_held3 (fun W => ((W.cell? ⟨w.heap.size, 0, none⟩ = some (.int .i64 n) ∧ W.cell? ⟨w.heap.size, 1, none⟩ = some (.slice A xs.length c)) ∧ Hid (Below w.heap.size w W ∧ Res w1.heap.size W))) (first | exact ⟨⟨e13_0, e13_1⟩, Sx⟩ | exact hK.out _ _ (by assumption) (by assumption) | exact hKs.out _ _ _ (by assumption) | assumption | go_keep) (first | (go_at_call 91; refine (facesInI n _ xs _ (by rename_i hS _ _; exact now_ R0.out hS.2.1) hl Hcx.out).mono ?_; rintro e wq ⟨rfl, bq⟩) | (go_at_call 99; refine (skeletonInI _ t _).mono ?_; rintro e wq ⟨rfl, bq⟩) | (go_at_call 89; rename_i hS _ _; have hRs := hS.2.2; have hBs := hS.2.1; refine (complexOfI n (skelP (faceP xs) t) _).mono ?_; rintro e w9 ⟨v9, rfl, o9, b9⟩; obtain ⟨A9, c9, rfl⟩ := own_shape o9; obtain ⟨⟨q0, q1, h90, h91⟩, f90, f91⟩ := hRs.to b9; have h9r := (hRs.to b9).lt))
      have Hfar := hide (fun k hk => Nat.lt_of_lt_of_le hRs.lt (own_block o9 k hk).1)
      have Ho := hide (own_mono o9 hBs.size)
      have Hb := hide (nxt hBs b9)
      clear o9 b9 hRs hBs
      go_wp2
      refine bodyPost_ret (v := .tuple #[.agg #[.int .i64 n, .slice A9 (zs (maxOf (skelP (faceP xs) t))).length c9], .bool true]) (by simp [results, Try.results17, go_sem, h90, h91]) rfl ?_
      refine retCB_yes Hok.out (own_setNe (own_setNe Ho.out (fun k hk => by have := Hfar.out k hk; omega) _ _) (fun k hk => by have := Hfar.out k hk; omega) _ _) (below_store Hb.out Hle.out _ _)
    · have Hok : Hid (skOk n xs t = false) := by show _ = _; unfold skOk; rw [Hcx.out, decide_eq_false ht]; rfl
      rcases Int.lt_or_le t 0 with h | h
      · clear ht
        go_enter Try.func17, Try.ntmps17
        go_wp2_with fail
        clear hW1 hW2
        refine (isComplexI n _ xs w2 R2.out hl).mono ?_
        rw [Hcx.out]
        rintro e w3 ⟨rfl, b3⟩
        obtain ⟨e3_0, e3_1⟩ := At2.out.to b3
        obtain ⟨e13_0, e13_1⟩ := At1.out.to b3
        obtain ⟨_, f0, f1⟩ := Rs2.out.to b3
        have hr : w1.heap.size < w3.heap.size := (Rs2.out.to b3).lt
        have B3 := hide (nxt B2.out b3)
        clear b3 e1_0 e1_1 e2_0 e2_1
        go_wp2
        refine bodyPost_ret (v := .tuple #[.agg #[.int .i64 0, .slice none 0 0], .bool false]) (by simp [results, Try.results17, go_sem, e3_0, e3_1]) rfl ?_
        exact retCB_no Hok.out (below_store B3.out Hle.out _ _)
      · have h2 : 6 < t := by omega
        clear ht
        go_enter Try.func17, Try.ntmps17
        go_wp2_with fail
        clear hW1 hW2
        refine (isComplexI n _ xs w2 R2.out hl).mono ?_
        rw [Hcx.out]
        rintro e w3 ⟨rfl, b3⟩
        obtain ⟨e3_0, e3_1⟩ := At2.out.to b3
        obtain ⟨e13_0, e13_1⟩ := At1.out.to b3
        obtain ⟨_, f0, f1⟩ := Rs2.out.to b3
        have hr : w1.heap.size < w3.heap.size := (Rs2.out.to b3).lt
        have B3 := hide (nxt B2.out b3)
        clear b3 e1_0 e1_1 e2_0 e2_1
        go_wp2
        refine bodyPost_ret (v := .tuple #[.agg #[.int .i64 0, .slice none 0 0], .bool false]) (by simp [results, Try.results17, go_sem, e3_0, e3_1]) rfl ?_
        exact retCB_no Hok.out (below_store B3.out Hle.out _ _)
end Go.Proofs.Ytjbojjjajnoidad
