/- Walks: BorderComplex. -/
import Derived.Test.YtjbojjjajnoidabW14
import Derived.Test.YtjbojjjajnoidabBox
import Derived.Test.YtjbojjjajnoidabMathFace
namespace Go.Proofs.Ytjbojjjajnoidab
open Go.RowKit

/-- All sets of n points but the fullest: of both makings. -/
def full (n : Nat) : Nat := 2 ^ n - 1
def borderSets (n : Nat) : List Int := zs (List.range (full n))
theorem borderSets_snoc (k : Nat) : zs (List.range (k + 1)) = zs (List.range k) ++ [(k : Int)] := by rw [List.range_succ, zs_snoc]
theorem full_lt {n : Nat} (h : n ≤ 6) : full n < 64 := by
  have := Nat.pow_le_pow_right (n := 2) (by omega) h
  unfold full
  have := Nat.two_pow_pos n
  omega
theorem border_all {n : Nat} (h : n ≤ 6) : allSets (borderSets n) = true := by
  refine List.all_eq_true.2 fun x hx => decide_eq_true ?_
  obtain ⟨k, hk, rfl⟩ := List.mem_map.1 hx
  have := List.mem_range.1 hk
  have := full_lt h
  constructor <;> omega
theorem border_in (m s : Nat) : inList (zs (List.range m)) s = decide (s < m) := by
  unfold inList
  rw [Bool.eq_iff_iff, List.contains_iff_mem]
  simp [zs]
  constructor
  · rintro ⟨a, h, e⟩
    omega
  · intro h
    exact ⟨s, h, rfl⟩
def borderP (n : Nat) (s : Nat) : Bool := sub s (full n) && s != full n
def borderEq (n s : Nat) : Bool := borderP n s == decide (s < full n)
theorem borderEq_all : ((List.range 7).all fun n => (List.range 64).all fun s => borderEq n s) = true := by decide +kernel
theorem border_eq {n s : Nat} (hn : n ≤ 6) (hs : s < 64) : borderP n s = decide (s < full n) := by
  have h1 := List.all_eq_true.1 (List.all_eq_true.1 borderEq_all n (List.mem_range.2 (by omega))) s (List.mem_range.2 hs)
  unfold borderEq at h1
  simpa using h1
theorem border_max {n : Nat} (hn : n ≤ 6) : maxOf (borderP n) = maxOf (inList (borderSets n)) := maxOf_congr fun s hs => by rw [border_eq hn hs]; exact (border_in _ _).symm
theorem border_fam : ∀ n : Nat, 1 ≤ n → n ≤ 6 → bits BinOp.andNot IntKind.u64 ((fam (fun u => sub u (full n)) : Nat) : Int) (IntKind.u64.wrap (2 ^ full n)) = ((fam (borderP n) : Nat) : Int) := by
  intro n h1 h6
  rcases (by omega : n = 1 ∨ n = 2 ∨ n = 3 ∨ n = 4 ∨ n = 5 ∨ n = 6) with rfl | rfl | rfl | rfl | rfl | rfl <;> decide +kernel
theorem full_wrap : ∀ n : Nat, 1 ≤ n → n ≤ 6 → wrap64 (wrap64 (2 ^ ((n : Int)).toNat) - 1) = ((full n : Nat) : Int) := by
  intro n h1 h6
  rcases (by omega : n = 1 ∨ n = 2 ∨ n = 3 ∨ n = 4 ∨ n = 5 ∨ n = 6) with rfl | rfl | rfl | rfl | rfl | rfl <;> decide +kernel
theorem full_wrap2 (n : Nat) (h1 : 1 ≤ n) (h6 : n ≤ 6) : wrap64 (wrap64 (2 ^ n) - 1) = ((full n : Nat) : Int) := by
  have := full_wrap n h1 h6
  rwa [Int.toNat_natCast] at this
def borderOk (n : Int) : Bool := decide (1 ≤ n ∧ n ≤ 6)
def borderN (n : Int) : Int := if 1 ≤ n ∧ n ≤ 6 then n else 0
def borderXs (n : Int) : List Int := if 1 ≤ n ∧ n ≤ 6 then zs (maxOf (inList (borderSets n.toNat))) else []
theorem zs_len16 (l : List Nat) : (zs l).length = l.length := List.length_map _
theorem borderXs_len (n : Int) : (borderXs n).length ≤ 448 := by
  unfold borderXs
  split
  · rw [zs_len16]; exact maxOf_len _
  · simp
theorem retCB_border {w w' : World} {n : Nat} (h : 1 ≤ n ∧ n ≤ 6) {v : Value} (ho : OwnV 3 w' w.heap.size v (ints (zs (maxOf (inList (borderSets n)))))) (hb : Below w.heap.size w w') : RetCB 3 w (borderN n) (borderXs n) (borderOk n) (.returned (.tuple #[.agg #[.int .i64 (n : Int), v], .bool true])) w' := by
  unfold borderN borderXs borderOk
  have h' : (1 : Int) ≤ (n : Int) ∧ (n : Int) ≤ 6 := by omega
  rw [if_pos h', if_pos h', decide_eq_true h']
  exact ⟨_, rfl, ho, hb⟩
theorem retCB_noBorder {w w' : World} {n : Int} (h : ¬ (1 ≤ n ∧ n ≤ 6)) (hb : Below w.heap.size w w') : RetCB 3 w (borderN n) (borderXs n) (borderOk n) (.returned (.tuple #[.agg #[.int .i64 0, .slice none 0 0], .bool false])) w' := by
  unfold borderN borderXs borderOk
  rw [if_neg h, if_neg h, decide_eq_false h]
  exact ⟨_, rfl, own_nil _ _, hb⟩

theorem borderComplexI (n : Int) (w : World) : Calls Try.prog 37 #[.int .i64 n] w fun e w' => RetCB 3 w (borderN n) (borderXs n) (borderOk n) e w' := by
  by_cases hn : 1 ≤ n ∧ n ≤ 6
  · obtain ⟨m, rfl⟩ := Int.eq_ofNat_of_zero_le (by omega : 0 ≤ n)
    have Hm : Hid (1 ≤ m ∧ m ≤ 6) := by show _ ∧ _; omega
    have hw := full_wrap2 m Hm.out.1 Hm.out.2
    have hf := border_fam m Hm.out.1 Hm.out.2
    have hfl := full_lt Hm.out.2
    have Hmax := hide (border_max Hm.out.2)
    obtain ⟨h1, h2⟩ := hn
    go_enter Try.func37, Try.ntmps37
    go_wp2_with (go_at_call 64; refine (subsetFamilyI (full m) hfl _).mono ?_; rintro e wx ⟨rfl, rfl⟩)
    refine (complexOfI m (borderP m) _).mono ?_
    rintro e w1 ⟨v', rfl, hown, hb⟩
    rw [Hmax.out] at hown
    obtain ⟨A', c', rfl⟩ := own_shape hown
    obtain ⟨ho, hfar⟩ := own_far (C := w.heap.size + 1) (D := w.heap.size) hown (by (try simp only [World.size_alloc]); omega) (by (try simp only [World.size_alloc]); omega)
    have Ho := hide ho
    have Hfar := hide hfar
    have Hb : Hid (Below w.heap.size w w1) := (below_alloc w _).trans (hb.mono (by (try simp only [World.size_alloc]); omega))
    obtain ⟨hc, hf⟩ := bcell hb
    have hz := hb.size
    simp only [World.size_alloc] at hz
    clear hown hb ho hfar
    go_wp2
    refine bodyPost_ret (v := .tuple #[.agg #[.int .i64 m, .slice A' (zs (maxOf (inList (borderSets m)))).length c'], .bool true]) (by simp [results, Try.results37, go_sem, hc]) rfl ?_
    refine retCB_border Hm.out (own_setNe (own_setNe Ho.out (fun k hk => by have := Hfar.out k hk; omega) _ _) (fun k hk => by have := Hfar.out k hk; omega) _ _) ?_
    have hbw := Hb.out
    go_grown
  · have Hn := hide hn
    rcases Int.lt_or_le n 1 with h | h
    · clear hn
      go_enter Try.func37, Try.ntmps37
      go_wp2
      refine bodyPost_ret (v := .tuple #[.agg #[.int .i64 0, .slice none 0 0], .bool false]) (by simp [results, Try.results37, go_sem]) rfl ?_
      exact retCB_noBorder Hn.out (below_alloc _ _)
    · have h2 : 6 < n := by omega
      clear hn
      go_enter Try.func37, Try.ntmps37
      go_wp2
      refine bodyPost_ret (v := .tuple #[.agg #[.int .i64 0, .slice none 0 0], .bool false]) (by simp [results, Try.results37, go_sem]) rfl ?_
      exact retCB_noBorder Hn.out (below_alloc _ _)

theorem borderComplexS (n : Int) (w : World) : Calls Try.prog 36 #[.int .i64 n] w fun e w' => RetCB 3 w (borderN n) (borderXs n) (borderOk n) e w' := by
  obtain ⟨w1, hW1, at1, b1, z1⟩ := boxC w (.int .i64 0) (.slice none 0 0) 27
  have Hat := hide at1
  have B1 := hide b1
  have Hfz : Hid (∀ o, w1.frozen? ⟨w.heap.size, o, none⟩ = false) := by
    intro o
    rw [← hW1]
    simp [go_sem]
  clear at1 b1
  have hf0 := Hfz.out 0
  have hf1 := Hfz.out 1
  obtain ⟨e0, e1⟩ := Hat.out
  have hwb : w.heap.size < w1.heap.size := by omega
  have Hz1 := hide z1
  clear z1
  by_cases hn : 1 ≤ n ∧ n ≤ 6
  · have Hin : Hid (inB n 1 6 = true) := inB_mk hn
    obtain ⟨m, rfl⟩ := Int.eq_ofNat_of_zero_le (by omega : 0 ≤ n)
    have Hm : Hid (1 ≤ m ∧ m ≤ 6) := by show _ ∧ _; omega
    have hw := full_wrap2 m Hm.out.1 Hm.out.2
    have hfl := full_lt Hm.out.2
    obtain ⟨h1, h2⟩ := hn
    go_enter Try.func36, Try.ntmps36
    go_wp2_with (go_at_call 52; refine (l1InS _ _ _ _).mono ?_; rw [Hin.out]; rintro e w' ⟨rfl, rfl⟩)
    clear hW1
    obtain ⟨ho, hbw⟩ : OwnV 3 (w1.alloc (.cells #[] 3)) w1.heap.size (.slice (some ⟨w1.heap.size, 0, none⟩) 0 0) (ints (zs (List.range 0))) ∧ Below w1.heap.size w1 (w1.alloc (.cells #[] 3)) := ⟨own_empty _ _, below_alloc _ _⟩
    have Ho := hide ho
    have Hbw := hide hbw
    clear ho hbw e0 e1 hf0 hf1
    go_loopw [4, 5] (fun v i wr => ∃ k : Nat, k ≤ full m ∧ i = .int .i64 k ∧ OwnV 3 wr w1.heap.size v (ints (zs (List.range k))) ∧ Below w1.heap.size w1 wr) (fun _ i _ => full m - (intOf i).toNat)
    case atStart => exact ⟨0, by omega, rfl, Ho.out, Hbw.out⟩
    case round =>
      obtain ⟨k, hk, rfl, hown, hb⟩ := hrel
      by_cases hlt : k < full m
      · have hlen : (zs (List.range k)).length < 17179869184 := by rw [zs_len16, List.length_range]; omega
        have hsz := hb.size
        have Hb := hide hb
        clear hb
        go_wp2_with (at_builtin; refine wpList_appI hown (k : Int) Try.underlying22 infoI rfl _ _ rfl rfl rfl hlen hsz ?_; intro v' w2 hown2 hb2 hg2)
        have Hown2 : Hid (OwnV 3 w2 w1.heap.size v' (ints (zs (List.range (k + 1))))) := by rw [borderSets_snoc]; exact hown2
        have Hb2 : Hid (Below w1.heap.size w1 w2) := Hb.out.trans hb2
        go_wp2
        go_roundw
        case rel => exact ⟨k + 1, by omega, by go_num, Hown2.out, Hb2.out⟩
        case measure => simp [intOf]; omega
      · obtain rfl : k = full m := by omega
        have Hr := hide (own_reads hown)
        have Hb := hide hb
        have Hall := hide (border_all Hm.out.2)
        have hlen : (borderSets m).length ≤ 1073741824 := by unfold borderSets; rw [zs_len16, List.length_range]; omega
        clear hown hb
        go_wp2_with fail
        refine (l3MakeS m _ (borderSets m) wr Hr.out hlen Hall.out).mono ?_
        rintro e w2 ⟨v', rfl, hown, hb⟩
        obtain ⟨A', c', rfl⟩ := own_shape hown
        have hz0 := Hb.out.size
        have z1 := Hz1.out
        obtain ⟨ho, hfar⟩ := own_far (C := w.heap.size + 1) (D := w.heap.size) hown (by omega) (by omega)
        have Ho2 := hide ho
        have Hfar := hide hfar
        have Hb12 := nxt Hb.out hb
        have Hb2 : Hid (Below w.heap.size w w2) := B1.out.trans (Hb12.mono (by omega))
        obtain ⟨e0, e1⟩ := Hat.out.to Hb12
        obtain ⟨hc, hf⟩ := bcell Hb12
        have hz := hb.size
        clear z1
        have f0' := (hf w.heap.size 0 hwb).trans (Hfz.out 0)
        have f1' := (hf w.heap.size 1 hwb).trans (Hfz.out 1)
        clear hown hb ho hfar hc hf Hb12
        go_wp2
        refine bodyPost_ret (v := .tuple #[.agg #[.int .i64 m, .slice A' (zs (maxOf (inList (borderSets m)))).length c'], .bool true]) (by simp [results, Try.results36, go_sem, e0, e1]) rfl ?_
        refine retCB_border Hm.out (own_setNe (own_setNe Ho2.out (fun k hk => by have := Hfar.out k hk; omega) _ _) (fun k hk => by have := Hfar.out k hk; omega) _ _) ?_
        have hbw := Hb2.out
        go_grown
  · have Hin : Hid (inB n 1 6 = false) := inB_no hn
    have H := hide hn
    clear hn
    go_enter Try.func36, Try.ntmps36
    go_wp2_with (go_at_call 52; refine (l1InS _ _ _ _).mono ?_; rw [Hin.out]; rintro e w' ⟨rfl, rfl⟩)
    refine bodyPost_ret (v := .tuple #[.agg #[.int .i64 0, .slice none 0 0], .bool false]) (by simp [results, Try.results36, go_sem, e0, e1]) rfl ?_
    refine retCB_noBorder H.out ?_
    have hbw := B1.out
    go_grown
end Go.Proofs.Ytjbojjjajnoidab
