/- Walks: pickSets, for a function value by its contract. -/
import Derived.Test.YtjbojjjajnoidadW5
import Derived.Test.YtjbojjjajnoidadBox
namespace Go.Proofs.Ytjbojjjajnoidad
open Go.RowKit

/-- The sets that pickSets asks for, up to k. -/
def pickTo (P : Nat → Bool) (k : Nat) (s : Nat) : Bool := decide (s < k) && P s
theorem pick_zero (P : Nat → Bool) : fam (pickTo P 0) = 0 := by
  rw [show fam (pickTo P 0) = fam (fun _ => false) from fam_congr (fun s _ => by simp [pickTo])]
  exact fam_zero
theorem pick_yes {P : Nat → Bool} {k : Nat} (h : P k = true) : fam (fun s => pickTo P k s || s == k) = fam (pickTo P (k + 1)) := by
  apply fam_congr
  intro s _
  unfold pickTo
  by_cases hs : s = k
  · subst hs; simp [h]
  · have : (s == k) = false := by simpa using hs
    rw [this, Bool.or_false]
    congr 1
    exact decide_eq_decide.2 (by omega)
theorem pick_no {P : Nat → Bool} {k : Nat} (h : P k = false) : fam (pickTo P k) = fam (pickTo P (k + 1)) := by
  apply fam_congr
  intro s _
  unfold pickTo
  by_cases hs : s = k
  · subst hs; simp [h]
  · congr 1
    exact decide_eq_decide.2 (by omega)

/-- A call of a function that has a body comes to be entered. -/
theorem call_enter {P : Program} {f : FuncId} {fn : Func} {c : Code} (hf : P.funcs[f]? = some fn) (hn : (fn.name == "runtime.NumGoroutine") = false) (hb : fn.body = some c) (args : Array Value) (w : World) : (callFunc f args).run P w = .ok (.enter f args) w := by
  have hne : fn.name ≠ "runtime.NumGoroutine" := by simpa using hn
  simp [callFunc, hf, hne, hb]
set_option maxRecDepth 100000 in
theorem pickSetsI (f : Nat) (caps : Array Value) (N : Nat) (hN : N ≤ 6) (P : Nat → Bool) (w : World)
    (hcf : ∀ (args : Array Value) (W : World), (callFunc f args).run Try.prog W = .ok (.enter f args) W)
    (hf : ∀ s : Nat, s < 64 → Calls Try.prog f (#[.int .i64 (s : Int)] ++ caps) w fun e w' => e = .returned (.bool (P s)) ∧ w = w') :
    Calls Try.prog 112 #[.int .i64 (N : Int), .func (.func f) #[] caps] w fun e w' => e = .returned (.int .u64 (fam (pickTo P (2 ^ N)) : Int)) ∧ w = w' := by
  have hp : 2 ^ N ≤ 64 := Nat.pow_le_pow_right (n := 2) (by omega) hN
  have hw : wrap64 (2 ^ N) = ((2 ^ N : Nat) : Int) := by
    rw [show ((2 : Int) ^ N) = ((2 ^ N : Nat) : Int) by simp]
    generalize 2 ^ N = q at hp
    unfold wrap64; omega
  generalize hpn : 2 ^ N = p at hp hw
  go_enter Try.func112, Try.ntmps112
  go_wp2
  go_loop [5, 6] (fun a i => ∃ k : Nat, k ≤ p ∧ i = .int .i64 k ∧ a = .int .u64 (fam (pickTo P k) : Int)) (fun _ i => p - (intOf i).toNat)
  case atStart => exact ⟨0, by omega, rfl, by rw [pick_zero]; rfl⟩
  case round =>
    obtain ⟨k, hk, rfl, rfl⟩ := hrel
    by_cases hlt : k < p
    · have hk64 : k < 64 := by omega
      have Ho := hide (or_fam (pickTo P k) k hk64)
      have Hf := hide (hf k hk64)
      have Hcf := hide hcf
      clear hf hcf
      cases hP : P k
      · have Hn := hide (pick_no hP)
        rw [hP] at Hf
        clear hP
        go_wp2_with fail
        rw [Hcf.out]
        refine Calls.mono Hf.out ?_
        rintro e w' ⟨rfl, rfl⟩
        go_wp2
        go_round
        case rel => exact ⟨k + 1, by omega, by go_num, by rw [Hn.out]⟩
        case measure => simp [intOf]; omega
      · have Hy := hide (pick_yes hP)
        rw [hP] at Hf
        clear hP
        go_wp2_with fail
        rw [Hcf.out]
        refine Calls.mono Hf.out ?_
        rintro e w' ⟨rfl, rfl⟩
        go_wp2
        go_round
        case rel => exact ⟨k + 1, by omega, by go_num, by rw [← Hy.out, ← Ho.out]⟩
        case measure => simp [intOf]; omega
    · obtain rfl : k = p := by omega
      go_wp2
      go_ret
      exact ⟨rfl, rfl⟩
end Go.Proofs.Ytjbojjjajnoidad
