/- Walks: CrossComplex. -/
import Derived.Test.YtjbojjjajnoidabW14
import Derived.Test.YtjbojjjajnoidabW17
import Derived.Test.YtjbojjjajnoidabMathFace
namespace Go.Proofs.Ytjbojjjajnoidab
open Go.RowKit

def hit (s i : Nat) : Bool := s / 2 ^ (2 * i) % 4 == 3
def crossP (k s : Nat) : Bool := (List.range k).all (fun i => !hit s i)
def hitEq (s i : Nat) : Bool := (bits BinOp.and IntKind.i64 ((s / 2 ^ (2 * i) : Nat) : Int) 3 == 3) == hit s i
theorem hitEq_all : ((List.range 64).all fun s => (List.range 3).all fun i => hitEq s i) = true := by decide +kernel
theorem hit_eq {s i : Nat} (hs : s < 64) (hi : i < 3) : (bits BinOp.and IntKind.i64 ((s : Int) / 2 ^ (2 * i)) 3 == 3) = hit s i := by
  have h1 := List.all_eq_true.1 (List.all_eq_true.1 hitEq_all s (List.mem_range.2 hs)) i (List.mem_range.2 hi)
  unfold hitEq at h1
  have e : ((s : Int) / 2 ^ (2 * i)) = ((s / 2 ^ (2 * i) : Nat) : Int) := by simp
  rw [e]
  simpa using h1

theorem crossP_snoc (j s : Nat) : crossP (j + 1) s = (crossP j s && !hit s j) := by simp [crossP, List.range_succ]
theorem crossP_no {k s j : Nat} (hj : j < k) (h : hit s j = true) : crossP k s = false := by
  unfold crossP
  rw [List.all_eq_false]
  exact ⟨j, List.mem_range.2 hj, by simp [h]⟩
theorem cross1I (k s : Nat) (hk : k ≤ 3) (hs : s < 64) (b : Nat) (w : World) (hc : w.cell? ⟨b, 0, none⟩ = some (.int .i64 (k : Int))) : Calls Try.prog 67 #[.int .i64 (s : Int), .pointer (some ⟨b, 0, none⟩)] w fun e w' => e = .returned (.bool (crossP k s)) ∧ w = w' := by
  go_enter Try.func67, Try.ntmps67
  go_wp2
  go_loop [4] (fun i => ∃ j : Nat, j ≤ k ∧ i = .int .i64 j ∧ Hid (crossP j s = true)) (fun i => k - (intOf i).toNat)
  case atStart => exact ⟨0, by omega, rfl, rfl⟩
  case round =>
    obtain ⟨j, hj, rfl, hok⟩ := hrel
    by_cases hlt : j < k
    · have hhit := hit_eq hs (show j < 3 by omega)
      have e2 : (2 * (j : Int)).toNat = 2 * j := by omega
      cases hh : hit s j
      · have Hn : Hid (crossP (j + 1) s = true) := by show _ = _; rw [crossP_snoc, hok.out, hh]; rfl
        rw [hh] at hhit
        clear hh
        go_wp2
        go_round
        case rel => exact ⟨j + 1, by omega, by go_num, Hn⟩
        case measure => simp [intOf]; omega
      · have Hn := hide (crossP_no hlt hh)
        rw [hh] at hhit
        clear hh
        go_wp2
        go_ret
        exact ⟨ret_bool Hn.out.symm, rfl⟩
    · obtain rfl : j = k := by omega
      go_wp2
      go_ret
      exact ⟨ret_bool hok.out.symm, rfl⟩
theorem enter_cross1 (args : Array Value) (W : World) : (callFunc 67 args).run Try.prog W = .ok (.enter 67 args) W := call_enter Try.func67 (by kernel_rfl) rfl args W

def crossQ (k : Nat) : Nat → Bool := pickTo (crossP k) (2 ^ (2 * k))
def crossTo (k m : Nat) : List Nat := (List.range m).filter (crossP k)
theorem crossTo_yes {k m : Nat} (h : crossP k m = true) : crossTo k (m + 1) = crossTo k m ++ [m] := by simp [crossTo, List.range_succ, h]
theorem crossTo_no {k m : Nat} (h : crossP k m = false) : crossTo k (m + 1) = crossTo k m := by simp [crossTo, List.range_succ, h]
theorem crossTo_len (k m : Nat) : (crossTo k m).length ≤ m := by
  have := List.length_filter_le (crossP k) (List.range m)
  simpa [crossTo] using this
def crossSets (k : Nat) : List Int := zs (crossTo k (2 ^ (2 * k)))
theorem cross_pow {k : Nat} (h : k ≤ 3) : 2 ^ (2 * k) ≤ 64 := Nat.pow_le_pow_right (n := 2) (by omega) (show 2 * k ≤ 6 by omega)
theorem cross_all {k : Nat} (h : k ≤ 3) : allSets (crossSets k) = true := by
  refine List.all_eq_true.2 fun x hx => decide_eq_true ?_
  obtain ⟨m, hm, rfl⟩ := List.mem_map.1 hx
  have := List.mem_range.1 (List.mem_filter.1 hm).1
  have := cross_pow h
  constructor
  · show (0 : Int) ≤ (m : Int); omega
  · show (m : Int) < 64; omega
theorem cross_in (k s : Nat) : inList (crossSets k) s = crossQ k s := by
  unfold inList crossQ pickTo
  rw [Bool.eq_iff_iff, List.contains_iff_mem, Bool.and_eq_true, decide_eq_true_eq]
  unfold crossSets crossTo zs
  rw [List.mem_map]
  constructor
  · rintro ⟨a, h, e⟩
    obtain rfl : a = s := Int.ofNat.inj e
    rw [List.mem_filter, List.mem_range] at h
    exact h
  · intro h
    exact ⟨s, List.mem_filter.2 ⟨List.mem_range.2 h.1, h.2⟩, rfl⟩
theorem cross_max (k : Nat) : maxOf (crossQ k) = maxOf (inList (crossSets k)) := maxOf_congr fun s _ => (cross_in k s).symm
def crossOk (k : Int) : Bool := decide (1 ≤ k ∧ k ≤ 3)
def crossN (k : Int) : Int := if 1 ≤ k ∧ k ≤ 3 then 2 * k else 0
def crossXs (k : Int) : List Int := if 1 ≤ k ∧ k ≤ 3 then zs (maxOf (inList (crossSets k.toNat))) else []
theorem zs_len18 (l : List Nat) : (zs l).length = l.length := List.length_map _
theorem crossXs_len (n : Int) : (crossXs n).length ≤ 448 := by
  unfold crossXs
  split
  · rw [zs_len18]; exact maxOf_len _
  · simp
theorem retCB_cross {w w' : World} {n : Nat} (h : 1 ≤ n ∧ n ≤ 3) {v : Value} (ho : OwnV 3 w' w.heap.size v (ints (zs (maxOf (inList (crossSets n)))))) (hb : Below w.heap.size w w') : RetCB 3 w (crossN n) (crossXs n) (crossOk n) (.returned (.tuple #[.agg #[.int .i64 (2 * (n : Int)), v], .bool true])) w' := by
  unfold crossN crossXs crossOk
  have h' : (1 : Int) ≤ (n : Int) ∧ (n : Int) ≤ 3 := by omega
  rw [if_pos h', if_pos h', decide_eq_true h']
  exact ⟨_, rfl, ho, hb⟩
theorem retCB_noCross {w w' : World} {n : Int} (h : ¬ (1 ≤ n ∧ n ≤ 3)) (hb : Below w.heap.size w w') : RetCB 3 w (crossN n) (crossXs n) (crossOk n) (.returned (.tuple #[.agg #[.int .i64 0, .slice none 0 0], .bool false])) w' := by
  unfold crossN crossXs crossOk
  rw [if_neg h, if_neg h, decide_eq_false h]
  exact ⟨_, rfl, own_nil _ _, hb⟩
theorem crossComplexI (n : Int) (w : World) : Calls Try.prog 41 #[.int .i64 n] w fun e w' => RetCB 3 w (crossN n) (crossXs n) (crossOk n) e w' := by
  by_cases hn : 1 ≤ n ∧ n ≤ 3
  · obtain ⟨m, rfl⟩ := Int.eq_ofNat_of_zero_le (by omega : 0 ≤ n)
    have Hm : Hid (1 ≤ m ∧ m ≤ 3) := by show _ ∧ _; omega
    have Hmax := hide (cross_max m)
    obtain ⟨h1, h2⟩ := hn
    have Hpick := hide (fun (W : World) (hc : W.cell? ⟨w.heap.size, 0, none⟩ = some (.int .i64 (m : Int))) => pickSetsI 67 #[.pointer (some ⟨w.heap.size, 0, none⟩)] (2 * m) (by omega) (crossP m) W enter_cross1 (fun s hs => cross1I m s Hm.out.2 hs w.heap.size W hc))
    go_enter Try.func41, Try.ntmps41
    go_wp2_with fail
    have hcell : ((w.alloc (.cells #[.int .i64 (m : Int)] 3)).alloc (.cells #[.int .i64 0, .slice none 0 0] 27)).cell? ⟨w.heap.size, 0, none⟩ = some (.int .i64 (m : Int)) := by simp [go_sem]
    have hp := Hpick.out _ hcell
    rw [show ((2 * m : Nat) : Int) = 2 * (m : Int) by omega] at hp
    refine hp.mono ?_
    rintro e w1 ⟨rfl, rfl⟩
    clear hp
    go_wp2_with fail
    have hx := complexOfI (2 * (m : Int)) (crossQ m) ((w.alloc (.cells #[.int .i64 (m : Int)] 3)).alloc (.cells #[.int .i64 0, .slice none 0 0] 27))
    refine hx.mono ?_
    rintro e w1 ⟨v', rfl, hown, hb⟩
    clear hx
    rw [Hmax.out] at hown
    obtain ⟨A', c', rfl⟩ := own_shape hown
    obtain ⟨ho, hfar⟩ := own_far (C := w.heap.size + 2) (D := w.heap.size) hown (by (try simp only [World.size_alloc]); omega) (by (try simp only [World.size_alloc]); omega)
    have Ho := hide ho
    have Hfar := hide hfar
    have Hb : Hid (Below w.heap.size w w1) := ((below_alloc w _).alloc (by (try simp only [World.size_alloc]); omega) _).trans (hb.mono (by (try simp only [World.size_alloc]); omega))
    obtain ⟨hc, hf⟩ := bcell hb
    have hz := hb.size
    simp only [World.size_alloc] at hz
    clear hown hb ho hfar
    go_wp2
    refine bodyPost_ret (v := .tuple #[.agg #[.int .i64 (2 * (m : Int)), .slice A' (zs (maxOf (inList (crossSets m)))).length c'], .bool true]) (by simp [results, Try.results41, go_sem, hc]) rfl ?_
    refine retCB_cross Hm.out (own_setNe (own_setNe Ho.out (fun k hk => by have := Hfar.out k hk; omega) _ _) (fun k hk => by have := Hfar.out k hk; omega) _ _) ?_
    have hbw := Hb.out
    go_grown
  · have Hn := hide hn
    rcases Int.lt_or_le n 1 with h | h
    · clear hn
      go_enter Try.func41, Try.ntmps41
      go_wp2
      refine bodyPost_ret (v := .tuple #[.agg #[.int .i64 0, .slice none 0 0], .bool false]) (by simp [results, Try.results41, go_sem]) rfl ?_
      exact retCB_noCross Hn.out ((below_alloc _ _).alloc (by (try simp only [World.size_alloc]); omega) _)
    · have h2 : 3 < n := by omega
      clear hn
      go_enter Try.func41, Try.ntmps41
      go_wp2
      refine bodyPost_ret (v := .tuple #[.agg #[.int .i64 0, .slice none 0 0], .bool false]) (by simp [results, Try.results41, go_sem]) rfl ?_
      exact retCB_noCross Hn.out ((below_alloc _ _).alloc (by (try simp only [World.size_alloc]); omega) _)

theorem crossComplexS (n : Int) (w : World) : Calls Try.prog 40 #[.int .i64 n] w fun e w' => RetCB 3 w (crossN n) (crossXs n) (crossOk n) e w' := by
  obtain ⟨w1, hW1, at1, b1, z1⟩ := boxC w (.int .i64 0) (.slice none 0 0) 27
  have Hat := hide at1
  have B1 := hide b1
  have Hfz : Hid (∀ o, w1.frozen? ⟨w.heap.size, o, none⟩ = false) := by
    intro o
    rw [← hW1]
    simp [go_sem]
  clear at1 b1
  have hf0 := Hfz.out 0
  have hf1 := Hfz.out 1
  obtain ⟨e0, e1⟩ := Hat.out
  have hwb : w.heap.size < w1.heap.size := by omega
  have Hz1 := hide z1
  clear z1
  by_cases hn : 1 ≤ n ∧ n ≤ 3
  · have Hin : Hid (inB n 1 3 = true) := inB_mk hn
    obtain ⟨k, rfl⟩ := Int.eq_ofNat_of_zero_le (by omega : 0 ≤ n)
    have Hm : Hid (1 ≤ k ∧ k ≤ 3) := by show _ ∧ _; omega
    have hpw : wrap64 (2 ^ (2 * k)) = ((2 ^ (2 * k) : Nat) : Int) := by
      have := cross_pow Hm.out.2
      rw [show ((2 : Int) ^ (2 * k)) = ((2 ^ (2 * k) : Nat) : Int) by simp]
      generalize 2 ^ (2 * k) = q at this
      unfold wrap64; omega
    have e2 : (2 * (k : Int)).toNat = 2 * k := by omega
    have hp64 := cross_pow Hm.out.2
    have Hdef : Hid (crossSets k = zs (crossTo k (2 ^ (2 * k)))) := rfl
    generalize hpq : 2 ^ (2 * k) = p at hpw hp64 Hdef
    have Hpq := hide hpq
    clear hpq
    obtain ⟨h1, h2⟩ := hn
    go_enter Try.func40, Try.ntmps40
    go_wp2_with (go_at_call 52; refine (l1InS _ _ _ _).mono ?_; rw [Hin.out]; rintro e w' ⟨rfl, rfl⟩)
    clear hW1
    obtain ⟨ho, hbw⟩ : OwnV 3 (w1.alloc (.cells #[] 3)) w1.heap.size (.slice (some ⟨w1.heap.size, 0, none⟩) 0 0) (ints (zs (crossTo k 0))) ∧ Below w1.heap.size w1 (w1.alloc (.cells #[] 3)) := ⟨own_empty _ _, below_alloc _ _⟩
    have Ho := hide ho
    have Hbw := hide hbw
    clear ho hbw e0 e1 hf0 hf1
    go_loopw [4, 5, 6, 7] (fun v i _ _ wr => ∃ s : Nat, s ≤ p ∧ i = .int .i64 s ∧ OwnV 3 wr w1.heap.size v (ints (zs (crossTo k s))) ∧ Below w1.heap.size w1 wr) (fun _ i _ _ _ => p - (intOf i).toNat)
    case atStart => exact ⟨0, by omega, rfl, Ho.out, Hbw.out⟩
    case round =>
      obtain ⟨s, hs, rfl, hown, hb⟩ := hrel
      by_cases hlt : s < p
      · have hlen : (zs (crossTo k s)).length < 17179869184 := by have := crossTo_len k s; rw [zs_len18]; omega
        have hsz := hb.size
        have Hb := hide hb
        have Hown := hide hown
        clear hb hown
        have hds : decide ((s : Int) < (p : Int)) = true := by simp; omega
        go_wp2
        go_loop [6, 7] (fun f i => ∃ j : Nat, j ≤ k ∧ i = .int .i64 j ∧ f = .bool (crossP j s)) (fun _ i => k - (intOf i).toNat)
        case atStart => exact ⟨0, by omega, rfl, rfl⟩
        case round =>
          obtain ⟨j, hj, rfl, rfl⟩ := hrel
          by_cases hjk : j < k
          · have hhit := hit_eq (show s < 64 by omega) (show j < 3 by omega)
            have ej : (2 * (j : Int)).toNat = 2 * j := by omega
            have Hsn := hide (crossP_snoc j s)
            cases hok : crossP j s
            · have Hok := hide hok
              clear hok hhit
              go_wp2
              go_round
              case rel => exact ⟨j + 1, by omega, by go_num, by rw [Hsn.out, Hok.out]; rfl⟩
              case measure => simp [intOf]; omega
            · have Hok := hide hok
              have hne : (bits BinOp.and IntKind.i64 ((s : Int) / 2 ^ (2 * j)) 3 != 3) = !hit s j := by rw [← hhit]; rfl
              clear hok hhit
              go_wp2
              go_round
              case rel => exact ⟨j + 1, by omega, by go_num, by rw [Hsn.out, Hok.out]; rfl⟩
              case measure => simp [intOf]; omega
          · obtain rfl : j = k := by omega
            cases hok : crossP j s
            · have Hn := hide (crossTo_no hok)
              clear hok
              go_wp2
              go_roundw
              case rel => exact ⟨s + 1, by omega, by go_num, by rw [Hn.out]; exact Hown.out, Hb.out⟩
              case measure => simp [intOf]; omega
            · have Hy := hide (crossTo_yes hok)
              clear hok
              have hown := Hown.out
              go_wp2_with (at_builtin; refine wpList_appI hown (s : Int) Try.underlying22 infoI rfl _ _ rfl rfl rfl hlen hsz ?_; intro v' w2 hown2 hb2 hg2)
              have Hown2 : Hid (OwnV 3 w2 w1.heap.size v' (ints (zs (crossTo j (s + 1))))) := by rw [Hy.out, zs_snoc]; exact hown2
              have Hb2 : Hid (Below w1.heap.size w1 w2) := Hb.out.trans hb2
              go_wp2
              go_roundw
              case rel => exact ⟨s + 1, by omega, by go_num, Hown2.out, Hb2.out⟩
              case measure => simp [intOf]; omega
      · obtain rfl : s = p := by omega
        have Hr := hide (own_reads hown)
        have Hb := hide hb
        have Hall := hide (cross_all Hm.out.2)
        have hlen : (crossSets k).length ≤ 1073741824 := by rw [Hdef.out, zs_len18]; have := crossTo_len k s; omega
        rw [← Hdef.out] at Hr
        clear hown hb
        go_wp2_with fail
        refine (l3MakeS (2 * (k : Int)) _ (crossSets k) wr Hr.out hlen Hall.out).mono ?_
        rintro e w2 ⟨v', rfl, hown, hb⟩
        obtain ⟨A', c', rfl⟩ := own_shape hown
        have hz0 := Hb.out.size
        have z1 := Hz1.out
        obtain ⟨ho, hfar⟩ := own_far (C := w.heap.size + 1) (D := w.heap.size) hown (by omega) (by omega)
        have Ho2 := hide ho
        have Hfar := hide hfar
        have Hb12 := nxt Hb.out hb
        have Hb2 : Hid (Below w.heap.size w w2) := B1.out.trans (Hb12.mono (by omega))
        obtain ⟨e0, e1⟩ := Hat.out.to Hb12
        obtain ⟨hc, hf⟩ := bcell Hb12
        have hz := hb.size
        clear z1
        have f0' := (hf w.heap.size 0 hwb).trans (Hfz.out 0)
        have f1' := (hf w.heap.size 1 hwb).trans (Hfz.out 1)
        clear hown hb ho hfar hc hf Hb12
        go_wp2
        refine bodyPost_ret (v := .tuple #[.agg #[.int .i64 (2 * (k : Int)), .slice A' (zs (maxOf (inList (crossSets k)))).length c'], .bool true]) (by simp [results, Try.results40, go_sem, e0, e1]) rfl ?_
        refine retCB_cross Hm.out (own_setNe (own_setNe Ho2.out (fun k hk => by have := Hfar.out k hk; omega) _ _) (fun k hk => by have := Hfar.out k hk; omega) _ _) ?_
        have hbw := Hb2.out
        go_grown
  · have Hin : Hid (inB n 1 3 = false) := inB_no hn
    have H := hide hn
    clear hn
    go_enter Try.func40, Try.ntmps40
    go_wp2_with (go_at_call 52; refine (l1InS _ _ _ _).mono ?_; rw [Hin.out]; rintro e w' ⟨rfl, rfl⟩)
    refine bodyPost_ret (v := .tuple #[.agg #[.int .i64 0, .slice none 0 0], .bool false]) (by simp [results, Try.results40, go_sem, e0, e1]) rfl ?_
    refine retCB_noCross H.out ?_
    have hbw := B1.out
    go_grown
end Go.Proofs.Ytjbojjjajnoidab
