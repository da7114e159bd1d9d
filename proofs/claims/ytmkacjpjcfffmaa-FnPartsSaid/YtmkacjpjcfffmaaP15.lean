/- Texts of one kind, laid together (3 of them). -/
import Derived.Test.YtmkacjpjcfffmaaP8
import Derived.Test.YtmkacjpjcfffmaaP14
namespace Go.Proofs.Ytmkacjpjcfffmaa
/- Walks: the reference's l5Set, l5Inside, InducedOf. Printed by gen/w22.py. -/
section
open Go.RowKit

theorem l5SetS (n : Int) (v : Value) (xs : List Int) (t : Int) (w : World) (h : IntsAt w w.heap.size v xs) (hl : xs.length ≤ 1073741824) :
    Calls Try.prog 126 #[.agg #[.int .i64 n, v], .int .i64 t] w fun e w' => RetB w (setOk n xs t) e w' := by
  obtain ⟨A, c, rfl⟩ := reads_shape h
  obtain ⟨w1, hW1, at1, b1, z1⟩ := boxC w (.int .i64 n) (.slice A xs.length c) 42
  have r1 := now_ h b1
  have At1 := hide at1
  obtain ⟨e1_0, e1_1⟩ := at1
  have B1 := hide b1
  have R1 := hide r1
  clear h b1 r1
  cases hcx : isCx n xs
  · have Hcx := hide hcx
    clear hcx
    go_enter Try.func126, Try.ntmps126
    go_wp2_with fail
    clear hW1
    refine (isComplexS n _ xs w1 R1.out hl).mono ?_
    rw [Hcx.out]
    rintro e w2 ⟨rfl, b2⟩
    have B2 := hide (nxt B1.out b2)
    go_wp2
    go_ret
    exact ⟨ret_bool (by unfold setOk; rw [Hcx.out]; rfl), B2.out⟩
  · have Hcx := hide hcx
    clear hcx
    go_enter Try.func126, Try.ntmps126
    go_wp2_with fail
    clear hW1
    refine (isComplexS n _ xs w1 R1.out hl).mono ?_
    rw [Hcx.out]
    rintro e w2 ⟨rfl, b2⟩
    have B2 := hide (nxt B1.out b2)
    obtain ⟨e2_0, e2_1⟩ := At1.out.to b2
    clear e1_0 e1_1
    go_wp2_with (go_at_call 87; refine (isSetS _ _ _).mono ?_; rintro e wx ⟨rfl, rfl⟩)
    go_ret
    exact ⟨ret_bool (by unfold setOk; rw [Hcx.out]; rfl), B2.out⟩

def insides (s : Nat) (xs : List Int) : List Nat := xs.map (fun x => x.toNat &&& s)
theorem insides_len (s : Nat) (xs : List Int) : (insides s xs).length ≤ xs.length := by simp [insides]
theorem insides_yes (s : Nat) (xs : List Int) (x : Nat) : insides s (xs ++ [(x : Int)]) = insides s xs ++ [x &&& s] := by simp [insides]
theorem insides_all {xs : List Int} {s : Nat} (_h : ∀ x ∈ xs, 0 ≤ x ∧ x < 64) (hs : s < 64) : allSets (zs (insides s xs)) = true := by
  refine List.all_eq_true.2 fun x hx => decide_eq_true ?_
  obtain ⟨m, hm, rfl⟩ := List.mem_map.1 hx
  obtain ⟨y, _, rfl⟩ := List.mem_map.1 hm
  have h : y.toNat &&& s ≤ s := Nat.and_le_right
  constructor
  · show (0 : Int) ≤ ((y.toNat &&& s : Nat) : Int); omega
  · show ((y.toNat &&& s : Nat) : Int) < 64; omega

theorem l5InsideS (n : Int) (v : Value) (xs : List Int) (s : Nat) (w : World) (h : IntsAt w w.heap.size v xs) (hl : xs.length ≤ 1048576) (hcx : isCx n xs = true) (hs : s < 64) :
    Calls Try.prog 139 #[.agg #[.int .i64 n, v], .int .i64 (s : Int)] w fun e w' => RetC 3 w n (zs (maxOf (inList (zs (insides s xs))))) e w' := by
  obtain ⟨A, c, rfl⟩ := reads_shape h
  obtain ⟨w1, hW1, at1, b1, z1⟩ := boxC w (.int .i64 n) (.slice A xs.length c) 42
  obtain ⟨w2, hW2, at2, rs2, b2, z2⟩ := boxRes w1 42
  have b02 := nxt b1 b2
  have He := hide (cxElems (now_ h b02) hcx)
  have At1 := hide (at1.to b2)
  have Rs2 := hide rs2
  have B2 := hide b02
  have hr2 := rs2.lt
  have hle : w.heap.size ≤ w1.heap.size := by omega
  have Hle := hide hle
  clear h at1 at2 rs2 b1 b2 b02 z1 z2 hle
  go_enter Try.func139, Try.ntmps139
  go_wp2_with fail
  clear hW1 hW2
  obtain ⟨ho, hbw⟩ : OwnV 3 (w2.alloc (.cells #[] 3)) w2.heap.size (.slice (some ⟨w2.heap.size, 0, none⟩) 0 0) (ints (zs (insides s (xs.take 0)))) ∧ Below w2.heap.size w2 (w2.alloc (.cells #[] 3)) := ⟨own_empty _ _, below_alloc _ _⟩
  have Ho := hide ho
  have Hbw := hide hbw
  clear ho hbw
  go_loopw [5, 6] (fun v i wr => ∃ k : Nat, k ≤ xs.length ∧ i = .int .i64 k ∧ Hid (OwnV 3 wr w2.heap.size v (ints (zs (insides s (xs.take k))))) ∧ Hid (Below w2.heap.size w2 wr)) (fun _ i _ => xs.length - (intOf i).toNat)
  case atStart => exact ⟨0, by omega, rfl, Ho, Hbw⟩
  case round =>
    obtain ⟨k, hk, rfl, hown, hb⟩ := hrel
    obtain ⟨e1, e2⟩ := At1.out.to hb.out
    by_cases hlt : k < xs.length
    · obtain ⟨b, o, x, ⟨c', hv⟩, hx, hx64, hcell0⟩ := He.out k hlt
      cases hv
      have hcell := (hb.out.cell (World.block_lt_of_cell? _ _ hcell0)).trans hcell0
      have Ht := hide (take_snoc _ _ _ hx)
      have hlen : (zs (insides s (xs.take k))).length < 17179869184 := by
        have h1 := insides_len s (xs.take k)
        have h2 := List.length_take_le k xs
        rw [List.length_map]; omega
      have hsz := hb.out.size
      have ho := hown.out
      have hand := i64_and x s (by omega) (by omega)
      clear hx hcell0
      go_wp2_with (at_builtin; refine wpList_appI ho (((x &&& s : Nat) : Int)) Try.underlying36 infoI rfl _ _ rfl rfl rfl hlen hsz ?_; intro v' w5 hown5 hb5 hg5)
      have Hown5 : Hid (OwnV 3 w5 w2.heap.size v' (ints (zs (insides s (xs.take (k + 1)))))) := by show OwnV _ _ _ _ _; rw [Ht.out, insides_yes, zs_snoc]; exact hown5
      have Hb5 : Hid (Below w2.heap.size w2 w5) := hb.out.trans hb5
      go_wp2
      go_roundw
      case rel => exact ⟨k + 1, by omega, by go_num, Hown5, Hb5⟩
      case measure => simp [intOf]; omega
    · have hk2 : xs.length ≤ k := by omega
      have Ht := hide (take_all xs k hk2)
      have hlen : (zs (insides s xs)).length ≤ 1073741824 := by
        have h1 := insides_len s xs
        rw [List.length_map]; omega
      have hown2 := hown.out
      rw [Ht.out] at hown2
      have Hown := hide hown2
      have Hall := hide (insides_all (xs := xs) (isCx_sets hcx) hs)
      clear hown hown2
      go_wp2_with fail
      refine (l3MakeS n _ (zs (insides s xs)) wr (own_reads Hown.out) hlen Hall.out).mono ?_
      rintro e w4 ⟨v', rfl, o4, b4⟩
      obtain ⟨A', c', rfl⟩ := own_shape o4
      obtain ⟨h90, f90, f91⟩ := (Rs2.out.to hb.out).to b4
      obtain ⟨q0, q1, h90, h91⟩ := h90
      have h9r := ((Rs2.out.to hb.out).to b4).lt
      have Hfar := hide (fun k hk => Nat.lt_of_lt_of_le (Rs2.out.to hb.out).lt (own_block o4 k hk).1)
      have Ho4 := hide (own_mono o4 (nxt B2.out hb.out).size)
      have Hb4 := hide (nxt (nxt B2.out hb.out) b4)
      clear o4 b4
      go_wp2
      refine bodyPost_ret (v := .agg #[.int .i64 n, .slice A' (zs (maxOf (inList (zs (insides s xs))))).length c']) (by simp [results, Try.results139, go_sem, h90, h91]) rfl ?_
      exact ⟨_, rfl, own_setNe (own_setNe Ho4.out (fun k hk => by have := Hfar.out k hk; omega) _ _) (fun k hk => by have := Hfar.out k hk; omega) _ _, below_store Hb4.out Hle.out _ _⟩
end

/- Walks: the reference's InducedOf; both makings are one. Printed by gen/w23.py. -/
section
open Go.RowKit

theorem sub_and {t a b : Nat} (h : sub t a = true) (k : sub t b = true) : sub t (a &&& b) = true := by
  rw [sub_iff] at *
  rw [← Nat.and_assoc, h, k]
theorem sub_and_left (a b : Nat) : sub (a &&& b) a = true := by
  rw [sub_iff, Nat.and_comm a b, Nat.and_assoc, Nat.and_self]
theorem sub_and_right (a b : Nat) : sub (a &&& b) b = true := by
  rw [sub_iff, Nat.and_assoc, Nat.and_self]
theorem mem_zs {l : List Nat} {s : Nat} : inList (zs l) s = true ↔ s ∈ l := by rw [in_zs, List.contains_iff_mem]
theorem induced_max {xs : List Int} {s : Nat} (_hx : ∀ x ∈ xs, 0 ≤ x ∧ x < 64) (hs : s < 64) : maxOf (inList (zs (insides s xs))) = maxOf (fun u => faceP xs u && sub u s) := by
  apply maxOf_under
  intro t _
  constructor
  · rintro ⟨u, hu, hin, htu⟩
    obtain ⟨x, hxm, rfl⟩ := List.mem_map.1 (mem_zs.1 hin)
    refine ⟨_, hu, ?_, htu⟩
    show (faceP xs (x.toNat &&& s) && sub (x.toNat &&& s) s) = true
    rw [sub_and_right, Bool.and_true]
    exact List.any_eq_true.2 ⟨x, hxm, sub_and_left _ _⟩
  · rintro ⟨u, hu, hin, htu⟩
    rw [Bool.and_eq_true] at hin
    obtain ⟨x, hxm, hux⟩ := List.any_eq_true.1 hin.1
    refine ⟨x.toNat &&& s, ?_, mem_zs.2 (List.mem_map.2 ⟨x, hxm, rfl⟩), sub_and (sub_trans2 htu hux) (sub_trans2 htu hin.2)⟩
    have h : x.toNat &&& s ≤ s := Nat.and_le_right
    omega

theorem inducedOfS (n : Int) (v : Value) (xs : List Int) (t : Int) (w : World) (h : IntsAt w w.heap.size v xs) (hl : xs.length ≤ 1048576) :
    Calls Try.prog 71 #[.agg #[.int .i64 n, v], .int .i64 t] w fun e w' => RetCB 3 w (cbN (setOk n xs t) n) (cbXs (setOk n xs t) (maxOf (fun u => faceP xs u && sub u t.toNat))) (setOk n xs t) e w' := by
  obtain ⟨A, c, rfl⟩ := reads_shape h
  obtain ⟨w1, hW1, at1, b1, z1⟩ := boxC w (.int .i64 n) (.slice A xs.length c) 42
  obtain ⟨w2, hW2, at2, rs2, b2, z2⟩ := boxRes w1 42
  have b02 := nxt b1 b2
  have R2 := hide (now_ h b02)
  have at1 := at1.to b2
  have At1 := hide at1
  have Rs2 := hide rs2
  have B2 := hide b02
  have Hle : Hid (w.heap.size ≤ w1.heap.size) := by show _ ≤ _; omega
  obtain ⟨e1_0, e1_1⟩ := at1
  obtain ⟨e2_0, e2_1⟩ := at2
  have At2 : Hid (AtC w2 w1.heap.size (.int .i64 0) (.slice none 0 0)) := ⟨e2_0, e2_1⟩
  clear h b1 b2 b02 z1 z2 rs2
  cases hok : setOk n xs t
  · have Hok := hide hok
    clear hok
    go_enter Try.func71, Try.ntmps71
    go_wp2_with fail
    clear hW1 hW2
    refine (l5SetS n _ xs t w2 R2.out (by omega)).mono ?_
    rw [Hok.out]
    rintro e w3 ⟨rfl, b3⟩
    obtain ⟨e3_0, e3_1⟩ := At2.out.to b3
    obtain ⟨_, f0, f1⟩ := Rs2.out.to b3
    have hr : w1.heap.size < w3.heap.size := (Rs2.out.to b3).lt
    have B3 := hide (nxt B2.out b3)
    clear b3 e1_0 e1_1 e2_0 e2_1
    go_wp2
    refine bodyPost_ret (v := .tuple #[.agg #[.int .i64 0, .slice none 0 0], .bool false]) (by simp [results, Try.results71, go_sem, e3_0, e3_1]) rfl ?_
    exact retCB_no rfl (below_store B3.out Hle.out _ _)
  · have Hok := hide hok
    have hcx : isCx n xs = true := by unfold setOk at hok; rw [Bool.and_eq_true] at hok; exact hok.1
    have hset : isSetB n t = true := by unfold setOk at hok; rw [Bool.and_eq_true] at hok; exact hok.2
    have ht := isSetB_64 hset
    obtain ⟨s, rfl⟩ := Int.eq_ofNat_of_zero_le ht.1
    have hs : s < 64 := by omega
    have Hcx := hide hcx
    have Hmx := hide (induced_max (isCx_sets hcx) hs)
    clear hok hcx hset ht
    go_enter Try.func71, Try.ntmps71
    go_wp2_with fail
    clear hW1 hW2
    refine (l5SetS n _ xs _ w2 R2.out (by omega)).mono ?_
    rw [Hok.out]
    rintro e w3 ⟨rfl, b3⟩
    have R3 := hide (now_ R2.out b3)
    obtain ⟨e3_0, e3_1⟩ := At1.out.to b3
    have Rs3 := hide (Rs2.out.to b3)
    have B3 := hide (nxt B2.out b3)
    clear b3 e1_0 e1_1 e2_0 e2_1
    go_wp2_with fail
    refine (l5InsideS n _ xs s w3 R3.out hl Hcx.out hs).mono ?_
    rw [Hmx.out]
    rintro e w4 ⟨v4, rfl, o4, b4⟩
    obtain ⟨A4, c4, rfl⟩ := own_shape o4
    obtain ⟨⟨q0, q1, h90, h91⟩, f90, f91⟩ := Rs3.out.to b4
    have h9r := (Rs3.out.to b4).lt
    have Hfar := hide (fun k hk => Nat.lt_of_lt_of_le Rs3.out.lt (own_block o4 k hk).1)
    have Ho4 := hide (own_mono o4 B3.out.size)
    have Hb4 := hide (nxt B3.out b4)
    clear o4 b4 e3_0 e3_1
    go_wp2
    rw [Int.toNat_natCast]
    refine bodyPost_ret (v := .tuple #[.agg #[.int .i64 n, .slice A4 (zs (maxOf (fun u => faceP xs u && sub u s))).length c4], .bool true]) (by simp [results, Try.results71, go_sem, h90, h91]) rfl ?_
    exact retCB_yes rfl (own_setNe (own_setNe Ho4.out (fun k hk => by have := Hfar.out k hk; omega) _ _) (fun k hk => by have := Hfar.out k hk; omega) _ _) (below_store Hb4.out Hle.out _ _)
end

/- Walks: LinkOf. Printed by gen/w24.py. -/
section
open Go.RowKit


def linkP (P : Nat → Bool) (s t : Nat) : Bool := (t &&& s == 0) && P (t ||| s)
theorem or64 {t s : Nat} (ht : t < 64) (hs : s < 64) : t ||| s < 64 := Nat.or_lt_two_pow (n := 6) (by omega) (by omega)
theorem link1I (P : Nat → Bool) (s t : Nat) (hs : s < 64) (ht : t < 64) (b1 b2 : Nat) (w : World) (h1 : w.cell? ⟨b1, 0, none⟩ = some (.int .i64 (s : Int))) (h2 : w.cell? ⟨b2, 0, none⟩ = some (.int .u64 (fam P : Int))) :
    Calls Try.prog 159 #[.int .i64 (t : Int), .pointer (some ⟨b1, 0, none⟩), .pointer (some ⟨b2, 0, none⟩)] w fun e w' => e = .returned (.bool (linkP P s t)) ∧ w = w' := by
  have ha := i64_and t s (by omega) (by omega)
  have ho := i64_or t s (by omega) (by omega)
  have hF := fam_lt P
  have hts := or64 ht hs
  by_cases h0 : t &&& s = 0
  · have hz : (((t &&& s : Nat) : Int) == 0) = true := by rw [beq_iff_eq]; omega
    have H : Hid (P (t ||| s) = linkP P s t) := by show _ = _; unfold linkP; rw [h0]; rfl
    have Hb : Hid ((fam P).testBit (t ||| s) = P (t ||| s)) := by show _ = _; rw [fam_bit, decide_eq_true hts]; rfl
    clear h0
    go_enter Try.func159, Try.ntmps159
    go_wp2_with (go_at_call 130; refine (hasSetI _ _ hF hts _).mono ?_; rintro e wx ⟨rfl, rfl⟩)
    go_ret
    exact ⟨ret_bool (by rw [Hb.out]; exact H.out), rfl⟩
  · have hz : (((t &&& s : Nat) : Int) == 0) = false := by rw [beq_eq_false_iff_ne]; omega
    have H : Hid (linkP P s t = false) := by show _ = _; unfold linkP; rw [show (t &&& s == 0) = false by simpa using h0]; rfl
    clear h0
    go_enter Try.func159, Try.ntmps159
    go_wp2
    go_ret
    exact ⟨ret_bool H.out.symm, rfl⟩
theorem enter_link1 (args : Array Value) (W : World) : (callFunc 159 args).run Try.prog W = .ok (.enter 159 args) W := call_enter Try.func159 (by kernel_rfl) rfl args W
theorem pick64 (f : Nat) (caps : Array Value) (P : Nat → Bool) (w : World) (hcf : ∀ (args : Array Value) (W : World), (callFunc f args).run Try.prog W = .ok (.enter f args) W)
    (hf : ∀ s : Nat, s < 64 → Calls Try.prog f (#[.int .i64 (s : Int)] ++ caps) w fun e w' => e = .returned (.bool (P s)) ∧ w = w') :
    Calls Try.prog 128 #[.int .i64 6, .func (.func f) #[] caps] w fun e w' => e = .returned (.int .u64 (fam P : Int)) ∧ w = w' := by
  have h := pickSetsI f caps 6 (by omega) P w hcf hf
  rwa [show fam (pickTo P (2 ^ 6)) = fam P from fam_congr (fun s hs => by unfold pickTo; rw [decide_eq_true (show s < 2 ^ 6 from hs)]; rfl)] at h
theorem linkInI (P : Nat → Bool) (s : Nat) (hs : s < 64) (w : World) : Calls Try.prog 125 #[.int .u64 (fam P : Int), .int .i64 (s : Int)] w fun e w' => e = .returned (.int .u64 (fam (linkP P s) : Int)) ∧ Below w.heap.size w w' := by
  have Hp := hide (fun (W : World) (h1 : W.cell? ⟨w.heap.size + 1, 0, none⟩ = some (.int .i64 (s : Int))) (h2 : W.cell? ⟨w.heap.size, 0, none⟩ = some (.int .u64 (fam P : Int))) => pick64 159 #[.pointer (some ⟨w.heap.size + 1, 0, none⟩), .pointer (some ⟨w.heap.size, 0, none⟩)] (linkP P s) W enter_link1 (fun t ht => link1I P s t hs ht _ _ W h1 h2))
  go_enter Try.func125, Try.ntmps125
  go_wp2_with fail
  refine (Hp.out _ (by simp [go_sem]) (by simp [go_sem])).mono ?_
  rintro e w1 ⟨rfl, rfl⟩
  go_wp2
  go_ret
  exact ⟨rfl, (below_alloc w _).alloc (by (try simp only [World.size_alloc]); omega) _⟩

def links (s : Nat) (xs : List Int) : List Nat := (xs.filter (fun x => sub s x.toNat)).map (fun x => x.toNat - s)
theorem links_len (s : Nat) (xs : List Int) : (links s xs).length ≤ xs.length := by unfold links; rw [List.length_map]; exact List.length_filter_le _ _
theorem links_yes {s x : Nat} {xs : List Int} (h : sub s x = true) : links s (xs ++ [(x : Int)]) = links s xs ++ [x - s] := by simp [links, List.filter_append, h]
theorem links_no {s x : Nat} {xs : List Int} (h : sub s x = false) : links s (xs ++ [(x : Int)]) = links s xs := by simp [links, List.filter_append, h]
theorem links_all {xs : List Int} {s : Nat} (h : ∀ x ∈ xs, 0 ≤ x ∧ x < 64) (_hs : s < 64) : allSets (zs (links s xs)) = true := by
  refine zs_all fun m hm => ?_
  obtain ⟨x, hx, rfl⟩ := List.mem_map.1 hm
  have := h x (List.mem_filter.1 hx).1
  omega
def linkFact (s x : Nat) : Bool := !sub s x || (((x - s) &&& s == 0) && ((x - s) ||| s == x))
theorem linkFact_all : ((List.range 64).all fun s => (List.range 64).all fun t => linkFact s t) = true := by decide +kernel
theorem link_fact {s x : Nat} (hs : s < 64) (hx : x < 64) (h : sub s x = true) : (x - s) &&& s = 0 ∧ (x - s) ||| s = x := by
  have h1 := List.all_eq_true.1 (List.all_eq_true.1 linkFact_all s (List.mem_range.2 hs)) x (List.mem_range.2 hx)
  unfold linkFact at h1
  rw [h] at h1
  simpa using h1
theorem sub_or_left (a b : Nat) : sub a (a ||| b) = true := by
  rw [sub_iff, Nat.and_or_distrib_left, Nat.and_self]
  apply Nat.eq_of_testBit_eq
  intro i
  rw [Nat.testBit_or, Nat.testBit_and]
  cases a.testBit i <;> simp
theorem sub_or_right (a b : Nat) : sub b (a ||| b) = true := by rw [Nat.or_comm]; exact sub_or_left b a
theorem link_max {xs : List Int} {s : Nat} (hx : ∀ x ∈ xs, 0 ≤ x ∧ x < 64) (hs : s < 64) : maxOf (inList (zs (links s xs))) = maxOf (linkP (faceP xs) s) := by
  apply maxOf_under
  intro t _
  constructor
  · rintro ⟨u, hu, hin, htu⟩
    obtain ⟨x, hxm, rfl⟩ := List.mem_map.1 (mem_zs.1 hin)
    obtain ⟨hxm, hsx⟩ := List.mem_filter.1 hxm
    have hx64 := hx x hxm
    obtain ⟨f1, f2⟩ := link_fact hs (show x.toNat < 64 by omega) hsx
    refine ⟨_, hu, ?_, htu⟩
    unfold linkP
    rw [f1, f2]
    have : faceP xs x.toNat = true := List.any_eq_true.2 ⟨x, hxm, sub_self _⟩
    rw [this]
    rfl
  · rintro ⟨u, hu, hin, htu⟩
    unfold linkP at hin
    rw [Bool.and_eq_true, beq_iff_eq] at hin
    obtain ⟨x, hxm, hux⟩ := List.any_eq_true.1 hin.2
    have hx64 := hx x hxm
    have hsx : sub s x.toNat = true := sub_trans2 (sub_or_right u s) hux
    obtain ⟨f1, f2⟩ := link_fact hs (show x.toNat < 64 by omega) hsx
    refine ⟨x.toNat - s, by omega, mem_zs.2 (List.mem_map.2 ⟨x, List.mem_filter.2 ⟨hxm, hsx⟩, rfl⟩), sub_trans2 htu ?_⟩
    have h3 : sub u x.toNat = true := sub_trans2 (sub_or_left u s) hux
    rw [← f2, sub_iff, Nat.and_or_distrib_left, hin.1, Nat.or_zero] at h3
    exact sub_iff.2 h3

theorem l5LinkS (n : Int) (v : Value) (xs : List Int) (s : Nat) (w : World) (h : IntsAt w w.heap.size v xs) (hl : xs.length ≤ 1048576) (hcx : isCx n xs = true) (hs : s < 64) :
    Calls Try.prog 127 #[.agg #[.int .i64 n, v], .int .i64 (s : Int)] w fun e w' => RetC 3 w n (zs (maxOf (inList (zs (links s xs))))) e w' := by
  obtain ⟨A, c, rfl⟩ := reads_shape h
  obtain ⟨w1, hW1, at1, b1, z1⟩ := boxC w (.int .i64 n) (.slice A xs.length c) 42
  obtain ⟨w2, hW2, at2, rs2, b2, z2⟩ := boxRes w1 42
  have b02 := nxt b1 b2
  have He := hide (cxElems (now_ h b02) hcx)
  have At1 := hide (at1.to b2)
  have Rs2 := hide rs2
  have B2 := hide b02
  have hr2 := rs2.lt
  have hle : w.heap.size ≤ w1.heap.size := by omega
  have Hle := hide hle
  clear h at1 at2 rs2 b1 b2 b02 z1 z2 hle
  go_enter Try.func127, Try.ntmps127
  go_wp2_with fail
  clear hW1 hW2
  obtain ⟨ho, hbw⟩ : OwnV 3 (w2.alloc (.cells #[] 3)) w2.heap.size (.slice (some ⟨w2.heap.size, 0, none⟩) 0 0) (ints (zs (links s (xs.take 0)))) ∧ Below w2.heap.size w2 (w2.alloc (.cells #[] 3)) := ⟨own_empty _ _, below_alloc _ _⟩
  have Ho := hide ho
  have Hbw := hide hbw
  clear ho hbw
  go_loopw [5, 6] (fun v i wr => ∃ k : Nat, k ≤ xs.length ∧ i = .int .i64 k ∧ Hid (OwnV 3 wr w2.heap.size v (ints (zs (links s (xs.take k))))) ∧ Hid (Below w2.heap.size w2 wr)) (fun _ i _ => xs.length - (intOf i).toNat)
  case atStart => exact ⟨0, by omega, rfl, Ho, Hbw⟩
  case round =>
    obtain ⟨k, hk, rfl, hown, hb⟩ := hrel
    obtain ⟨e1, e2⟩ := At1.out.to hb.out
    by_cases hlt : k < xs.length
    · obtain ⟨b, o, x, ⟨c', hv⟩, hx, hx64, hcell0⟩ := He.out k hlt
      cases hv
      have hcell := (hb.out.cell (World.block_lt_of_cell? _ _ hcell0)).trans hcell0
      have Ht := hide (take_snoc _ _ _ hx)
      have hlen : (zs (links s (xs.take k))).length < 17179869184 := by
        have h1 := links_len s (xs.take k)
        have h2 := List.length_take_le k xs
        rw [List.length_map]; omega
      have hsz := hb.out.size
      have ho := hown.out
      have hq := and_bitY hs hx64
      clear hx hcell0
      cases hsub : sub s x
      · have Hn := hide (links_no (xs := xs.take k) hsub)
        rw [hsub] at hq
        clear hsub
        go_wp2
        go_roundw
        case rel => exact ⟨k + 1, by omega, by go_num, by rw [Ht.out, Hn.out]; exact hown, hb⟩
        case measure => simp [intOf]; omega
      · have Hy := hide (links_yes (xs := xs.take k) hsub)
        rw [hsub] at hq
        have hsx := sub_le hsub
        have hsubc : (x : Int) - (s : Int) = ((x - s : Nat) : Int) := by omega
        clear hsx
        clear hsub
        go_wp2_with (at_builtin; refine wpList_appI ho (((x - s : Nat) : Int)) Try.underlying36 infoI rfl _ _ rfl rfl rfl hlen hsz ?_; intro v' w5 hown5 hb5 hg5)
        have Hown5 : Hid (OwnV 3 w5 w2.heap.size v' (ints (zs (links s (xs.take (k + 1)))))) := by show OwnV _ _ _ _ _; rw [Ht.out, Hy.out, zs_snoc]; exact hown5
        have Hb5 : Hid (Below w2.heap.size w2 w5) := hb.out.trans hb5
        go_wp2
        go_roundw
        case rel => exact ⟨k + 1, by omega, by go_num, Hown5, Hb5⟩
        case measure => simp [intOf]; omega
    · have hk2 : xs.length ≤ k := by omega
      have Ht := hide (take_all xs k hk2)
      have hlen : (zs (links s xs)).length ≤ 1073741824 := by
        have h1 := links_len s xs
        rw [List.length_map]; omega
      have hown2 := hown.out
      rw [Ht.out] at hown2
      have Hown := hide hown2
      have Hall := hide (links_all (xs := xs) (isCx_sets hcx) hs)
      clear hown hown2
      go_wp2_with fail
      refine (l3MakeS n _ (zs (links s xs)) wr (own_reads Hown.out) hlen Hall.out).mono ?_
      rintro e w4 ⟨v', rfl, o4, b4⟩
      obtain ⟨A', c', rfl⟩ := own_shape o4
      obtain ⟨h90, f90, f91⟩ := (Rs2.out.to hb.out).to b4
      obtain ⟨q0, q1, h90, h91⟩ := h90
      have h9r := ((Rs2.out.to hb.out).to b4).lt
      have Hfar := hide (fun k hk => Nat.lt_of_lt_of_le (Rs2.out.to hb.out).lt (own_block o4 k hk).1)
      have Ho4 := hide (own_mono o4 (nxt B2.out hb.out).size)
      have Hb4 := hide (nxt (nxt B2.out hb.out) b4)
      clear o4 b4
      go_wp2
      refine bodyPost_ret (v := .agg #[.int .i64 n, .slice A' (zs (maxOf (inList (zs (links s xs))))).length c']) (by simp [results, Try.results127, go_sem, h90, h91]) rfl ?_
      exact ⟨_, rfl, own_setNe (own_setNe Ho4.out (fun k hk => by have := Hfar.out k hk; omega) _ _) (fun k hk => by have := Hfar.out k hk; omega) _ _, below_store Hb4.out Hle.out _ _⟩

theorem linkOfI (n : Int) (v : Value) (xs : List Int) (t : Int) (w : World) (h : IntsAt w w.heap.size v xs) (hl : xs.length ≤ 1073741824) :
    Calls Try.prog 60 #[.agg #[.int .i64 n, v], .int .i64 t] w fun e w' => RetCB 3 w (cbN (setOk n xs t) n) (cbXs (setOk n xs t) (maxOf (linkP (faceP xs) t.toNat))) (setOk n xs t) e w' := by
  obtain ⟨A, c, rfl⟩ := reads_shape h
  obtain ⟨w1, hW1, at1, b1, z1⟩ := boxC w (.int .i64 n) (.slice A xs.length c) 42
  obtain ⟨w2, hW2, at2, rs2, b2, z2⟩ := boxRes w1 42
  have b02 := nxt b1 b2
  have R0 := hide h
  have R2 := hide (now_ h b02)
  have at1 := at1.to b2
  have At1 := hide at1
  have Rs2 := hide rs2
  have B2 := hide b02
  have hne : w.heap.size ≠ w1.heap.size := by omega
  have Hle : Hid (w.heap.size ≤ w1.heap.size) := by show _ ≤ _; omega
  obtain ⟨e1_0, e1_1⟩ := at1
  obtain ⟨e2_0, e2_1⟩ := at2
  have At2 : Hid (AtC w2 w1.heap.size (.int .i64 0) (.slice none 0 0)) := ⟨e2_0, e2_1⟩
  clear h b1 b2 b02 z1 z2 rs2
  cases hcx : isCx n xs
  · have Hcx := hide hcx
    clear hcx
    have Hok : Hid (setOk n xs t = false) := by show _ = _; unfold setOk; rw [Hcx.out]; rfl
    go_enter Try.func60, Try.ntmps60
    go_wp2_with fail
    clear hW1 hW2
    refine (isComplexI n _ xs w2 R2.out hl).mono ?_
    rw [Hcx.out]
    rintro e w3 ⟨rfl, b3⟩
    obtain ⟨e3_0, e3_1⟩ := At2.out.to b3
    obtain ⟨_, f0, f1⟩ := Rs2.out.to b3
    have hr : w1.heap.size < w3.heap.size := (Rs2.out.to b3).lt
    have B3 := hide (nxt B2.out b3)
    clear b3 e1_0 e1_1 e2_0 e2_1
    go_wp2
    refine bodyPost_ret (v := .tuple #[.agg #[.int .i64 0, .slice none 0 0], .bool false]) (by simp [results, Try.results60, go_sem, e3_0, e3_1]) rfl ?_
    exact retCB_no Hok.out (below_store B3.out Hle.out _ _)
  · have Hcx := hide hcx
    clear hcx
    cases hset : isSetB n t
    · have Hset := hide hset
      clear hset
      have Hok : Hid (setOk n xs t = false) := by show _ = _; unfold setOk; rw [Hcx.out, Hset.out]; rfl
      go_enter Try.func60, Try.ntmps60
      go_wp2_with fail
      clear hW1 hW2
      refine (isComplexI n _ xs w2 R2.out hl).mono ?_
      rw [Hcx.out]
      rintro e w3 ⟨rfl, b3⟩
      obtain ⟨e3_0, e3_1⟩ := At2.out.to b3
      obtain ⟨e13_0, e13_1⟩ := At1.out.to b3
      obtain ⟨_, f0, f1⟩ := Rs2.out.to b3
      have hr : w1.heap.size < w3.heap.size := (Rs2.out.to b3).lt
      have B3 := hide (nxt B2.out b3)
      clear b3 e1_0 e1_1 e2_0 e2_1
      go_wp2_with (go_at_call 86; refine (isSetI _ _ _).mono ?_; rw [Hset.out]; rintro e wx ⟨rfl, rfl⟩)
      refine bodyPost_ret (v := .tuple #[.agg #[.int .i64 0, .slice none 0 0], .bool false]) (by simp [results, Try.results60, go_sem, e3_0, e3_1]) rfl ?_
      exact retCB_no Hok.out (below_store B3.out Hle.out _ _)
    · have Hset := hide hset
      have ht := isSetB_64 hset
      obtain ⟨s, rfl⟩ := Int.eq_ofNat_of_zero_le ht.1
      have hs : s < 64 := by omega
      have Hok : Hid (setOk n xs (s : Int) = true) := by show _ = _; unfold setOk; rw [Hcx.out, Hset.out]; rfl
      clear hset ht
      go_enter Try.func60, Try.ntmps60
      go_wp2_with fail
      clear hW1 hW2
      refine (isComplexI n _ xs w2 R2.out hl).mono ?_
      rw [Hcx.out]
      rintro e w3 ⟨rfl, b3⟩
      obtain ⟨e13_0, e13_1⟩ := At1.out.to b3
      have B3 := hide (nxt B2.out b3)
      have Sx : Hid (Below w.heap.size w w3.drew ∧ Res w1.heap.size w3.drew) := ⟨(nxt B2.out b3).drew, by have h := Rs2.out.to b3; exact h⟩
      have hK : Hid (∀ W W' : World, (AtC W w.heap.size (.int .i64 n) (.slice A xs.length c) ∧ Hid (Below w.heap.size w W ∧ Res w1.heap.size W)) → Below W.heap.size W W' → (AtC W' w.heap.size (.int .i64 n) (.slice A xs.length c) ∧ Hid (Below w.heap.size w W' ∧ Res w1.heap.size W'))) := fun W W' h k => ⟨h.1.to k, nxt h.2.1 k, h.2.2.to k⟩
      have hKs : Hid (∀ (W : World) (x y : Value), (AtC W w.heap.size (.int .i64 n) (.slice A xs.length c) ∧ Hid (Below w.heap.size w W ∧ Res w1.heap.size W)) → (AtC ((W.setCell ⟨w1.heap.size, 0, none⟩ x).setCell ⟨w1.heap.size, 1, none⟩ y) w.heap.size (.int .i64 n) (.slice A xs.length c) ∧ Hid (Below w.heap.size w ((W.setCell ⟨w1.heap.size, 0, none⟩ x).setCell ⟨w1.heap.size, 1, none⟩ y) ∧ Res w1.heap.size ((W.setCell ⟨w1.heap.size, 0, none⟩ x).setCell ⟨w1.heap.size, 1, none⟩ y)))) := fun W x y h => ⟨h.1.store hne x y, below_store h.2.1 Hle.out x y, h.2.2.store x y⟩
      clear b3 e1_0 e1_1 e2_0 e2_1
      go_wp2_with (go_at_call 86; refine (isSetI _ _ _).mono ?_; rw [Hset.out]; rintro e wx ⟨rfl, rfl⟩)
      go_region_held3 (fun W => ((W.cell? ⟨w.heap.size, 0, none⟩ = some (.int .i64 n) ∧ W.cell? ⟨w.heap.size, 1, none⟩ = some (.slice A xs.length c)) ∧ Hid (Below w.heap.size w W ∧ Res w1.heap.size W))) (first | exact ⟨⟨e13_0, e13_1⟩, Sx⟩ | exact hK.out _ _ (by assumption) (by assumption) | exact hKs.out _ _ _ (by assumption) | assumption | go_keep) (first | (go_at_call 114; refine (facesInI n _ xs _ (by rename_i hS _ _; exact now_ R0.out hS.2.1) hl Hcx.out).mono ?_; rintro e wq ⟨rfl, bq⟩) | (go_at_call 125; refine (linkInI (faceP xs) s hs _).mono ?_; rintro e wq ⟨rfl, bq⟩) | (go_at_call 124; rename_i hS _ _; have hRs := hS.2.2; have hBs := hS.2.1; refine (complexOfI n (linkP (faceP xs) s) _).mono ?_; rintro e w9 ⟨v9, rfl, o9, b9⟩; obtain ⟨A9, c9, rfl⟩ := own_shape o9; obtain ⟨⟨q0, q1, h90, h91⟩, f90, f91⟩ := hRs.to b9; have h9r := (hRs.to b9).lt))
      have Hfar := hide (fun k hk => Nat.lt_of_lt_of_le hRs.lt (own_block o9 k hk).1)
      have Ho := hide (own_mono o9 hBs.size)
      have Hb := hide (nxt hBs b9)
      clear o9 b9 hRs hBs
      go_wp2
      refine bodyPost_ret (v := .tuple #[.agg #[.int .i64 n, .slice A9 (zs (maxOf (linkP (faceP xs) s))).length c9], .bool true]) (by simp [results, Try.results60, go_sem, h90, h91]) rfl ?_
      rw [Int.toNat_natCast]
      refine retCB_yes Hok.out (own_setNe (own_setNe Ho.out (fun k hk => by have := Hfar.out k hk; omega) _ _) (fun k hk => by have := Hfar.out k hk; omega) _ _) (below_store Hb.out Hle.out _ _)

theorem linkOfS (n : Int) (v : Value) (xs : List Int) (t : Int) (w : World) (h : IntsAt w w.heap.size v xs) (hl : xs.length ≤ 1048576) :
    Calls Try.prog 61 #[.agg #[.int .i64 n, v], .int .i64 t] w fun e w' => RetCB 3 w (cbN (setOk n xs t) n) (cbXs (setOk n xs t) (maxOf (linkP (faceP xs) t.toNat))) (setOk n xs t) e w' := by
  obtain ⟨A, c, rfl⟩ := reads_shape h
  obtain ⟨w1, hW1, at1, b1, z1⟩ := boxC w (.int .i64 n) (.slice A xs.length c) 42
  obtain ⟨w2, hW2, at2, rs2, b2, z2⟩ := boxRes w1 42
  have b02 := nxt b1 b2
  have R2 := hide (now_ h b02)
  have at1 := at1.to b2
  have At1 := hide at1
  have Rs2 := hide rs2
  have B2 := hide b02
  have Hle : Hid (w.heap.size ≤ w1.heap.size) := by show _ ≤ _; omega
  obtain ⟨e1_0, e1_1⟩ := at1
  obtain ⟨e2_0, e2_1⟩ := at2
  have At2 : Hid (AtC w2 w1.heap.size (.int .i64 0) (.slice none 0 0)) := ⟨e2_0, e2_1⟩
  clear h b1 b2 b02 z1 z2 rs2
  cases hok : setOk n xs t
  · have Hok := hide hok
    clear hok
    go_enter Try.func61, Try.ntmps61
    go_wp2_with fail
    clear hW1 hW2
    refine (l5SetS n _ xs t w2 R2.out (by omega)).mono ?_
    rw [Hok.out]
    rintro e w3 ⟨rfl, b3⟩
    obtain ⟨e3_0, e3_1⟩ := At2.out.to b3
    obtain ⟨_, f0, f1⟩ := Rs2.out.to b3
    have hr : w1.heap.size < w3.heap.size := (Rs2.out.to b3).lt
    have B3 := hide (nxt B2.out b3)
    clear b3 e1_0 e1_1 e2_0 e2_1
    go_wp2
    refine bodyPost_ret (v := .tuple #[.agg #[.int .i64 0, .slice none 0 0], .bool false]) (by simp [results, Try.results61, go_sem, e3_0, e3_1]) rfl ?_
    exact retCB_no rfl (below_store B3.out Hle.out _ _)
  · have Hok := hide hok
    have hcx : isCx n xs = true := by unfold setOk at hok; rw [Bool.and_eq_true] at hok; exact hok.1
    have hset : isSetB n t = true := by unfold setOk at hok; rw [Bool.and_eq_true] at hok; exact hok.2
    have ht := isSetB_64 hset
    obtain ⟨s, rfl⟩ := Int.eq_ofNat_of_zero_le ht.1
    have hs : s < 64 := by omega
    have Hcx := hide hcx
    have Hmx := hide (link_max (isCx_sets hcx) hs)
    clear hok hcx hset ht
    go_enter Try.func61, Try.ntmps61
    go_wp2_with fail
    clear hW1 hW2
    refine (l5SetS n _ xs _ w2 R2.out (by omega)).mono ?_
    rw [Hok.out]
    rintro e w3 ⟨rfl, b3⟩
    have R3 := hide (now_ R2.out b3)
    obtain ⟨e3_0, e3_1⟩ := At1.out.to b3
    have Rs3 := hide (Rs2.out.to b3)
    have B3 := hide (nxt B2.out b3)
    clear b3 e1_0 e1_1 e2_0 e2_1
    go_wp2_with fail
    refine (l5LinkS n _ xs s w3 R3.out hl Hcx.out hs).mono ?_
    rw [Hmx.out]
    rintro e w4 ⟨v4, rfl, o4, b4⟩
    obtain ⟨A4, c4, rfl⟩ := own_shape o4
    obtain ⟨⟨q0, q1, h90, h91⟩, f90, f91⟩ := Rs3.out.to b4
    have h9r := (Rs3.out.to b4).lt
    have Hfar := hide (fun k hk => Nat.lt_of_lt_of_le Rs3.out.lt (own_block o4 k hk).1)
    have Ho4 := hide (own_mono o4 B3.out.size)
    have Hb4 := hide (nxt B3.out b4)
    clear o4 b4 e3_0 e3_1
    go_wp2
    rw [Int.toNat_natCast]
    refine bodyPost_ret (v := .tuple #[.agg #[.int .i64 n, .slice A4 (zs (maxOf (linkP (faceP xs) s))).length c4], .bool true]) (by simp [results, Try.results61, go_sem, h90, h91]) rfl ?_
    exact retCB_yes rfl (own_setNe (own_setNe Ho4.out (fun k hk => by have := Hfar.out k hk; omega) _ _) (fun k hk => by have := Hfar.out k hk; omega) _ _) (below_store Hb4.out Hle.out _ _)
end
end Go.Proofs.Ytmkacjpjcfffmaa
