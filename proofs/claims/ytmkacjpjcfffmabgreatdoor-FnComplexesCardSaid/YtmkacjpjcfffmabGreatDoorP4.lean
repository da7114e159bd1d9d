/- Texts of one kind, laid together (7 of them). -/
import Derived.Test.YtmkacjpjcfffmabGreatDoorP1
import Derived.Test.YtmkacjpjcfffmabGreatDoorP2
import Derived.Test.YtmkacjpjcfffmabGreatDoorP3
namespace Go.Proofs.YtmkacjpjcfffmabGreatDoor
/- Plain laws: what a complex's text is read as. No program is named here. -/
section
theorem spTo_none (b : UInt8) (l : List UInt8) : ∀ k, (∀ i, i < k → l[i]? ≠ some b) → spTo b l k = ([], 0)
  | 0, _ => rfl
  | k + 1, h => by rw [spTo_miss b l k (h k (by omega)), spTo_none b l k (fun i hi => h i (by omega))]
theorem not_at {b : UInt8} {p : List UInt8} (h : b ∉ p) (i : Nat) : p[i]? ≠ some b := fun e => h (List.mem_of_getElem? e)
theorem splitB_none {b : UInt8} {l : List UInt8} (h : b ∉ l) : splitB b l = [l] := by
  unfold splitB
  rw [spTo_none b l l.length (fun i _ => not_at h i)]
  rfl
theorem spTo_cons {b : UInt8} {p q : List UInt8} (h : b ∉ p) : ∀ k, spTo b (p ++ b :: q) (p.length + 1 + k) = (p :: (spTo b q k).1, p.length + 1 + (spTo b q k).2)
  | 0 => by
    have h1 : (p ++ b :: q)[p.length]? = some b := by simp
    have h2 : spTo b (p ++ b :: q) p.length = ([], 0) := spTo_none _ _ _ (fun i hi => by
      rw [List.getElem?_append_left hi]
      exact not_at h i)
    rw [Nat.add_zero, spTo_hit _ _ _ h1, h2]
    simp [spTo]
  | k + 1 => by
    have ih := spTo_cons (q := q) h k
    have h1 : (p ++ b :: q)[p.length + 1 + k]? = q[k]? := by
      rw [List.getElem?_append_right (by omega), show p.length + 1 + k - p.length = k + 1 by omega]
      rfl
    by_cases hk : q[k]? = some b
    · rw [show p.length + 1 + (k + 1) = (p.length + 1 + k) + 1 by omega, spTo_hit _ _ _ (h1.trans hk), ih, spTo_hit _ _ _ hk]
      have hd : (p ++ b :: q).drop (p.length + 1 + (spTo b q k).2) = q.drop (spTo b q k).2 := by
        rw [List.drop_append, List.drop_eq_nil_of_le (by omega), show p.length + 1 + (spTo b q k).2 - p.length = (spTo b q k).2 + 1 by omega]
        rfl
      simp only [hd, List.cons_append, Prod.mk.injEq, List.cons.injEq, true_and]
      refine ⟨by rw [show p.length + 1 + k - (p.length + 1 + (spTo b q k).2) = k - (spTo b q k).2 by omega], by omega⟩
    · rw [show p.length + 1 + (k + 1) = (p.length + 1 + k) + 1 by omega, spTo_miss _ _ _ (fun e => hk (h1.symm.trans e)), ih, spTo_miss _ _ _ hk]
theorem splitB_cons {b : UInt8} {p q : List UInt8} (h : b ∉ p) : splitB b (p ++ b :: q) = p :: splitB b q := by
  unfold splitB
  have e : (p ++ b :: q).length = p.length + 1 + q.length := by simp; omega
  rw [e, spTo_cons h]
  have hd : (p ++ b :: q).drop (p.length + 1 + (spTo b q q.length).2) = q.drop (spTo b q q.length).2 := by
    rw [List.drop_append, List.drop_eq_nil_of_le (by omega), show p.length + 1 + (spTo b q q.length).2 - p.length = (spTo b q q.length).2 + 1 by omega]
    rfl
  simp only [hd, List.cons_append]
theorem spTo_part (b : UInt8) (l : List UInt8) : ∀ k, ∀ p ∈ (spTo b l k).1, p.length ≤ l.length
  | 0 => by simp [spTo]
  | k + 1 => by
    intro p hp
    by_cases h : l[k]? = some b
    · rw [spTo_hit _ _ _ h] at hp
      rcases List.mem_append.1 hp with hp | hp
      · exact spTo_part b l k p hp
      · have e : p = (l.drop (spTo b l k).2).take (k - (spTo b l k).2) := by simpa using hp
        rw [e, List.length_take, List.length_drop]
        omega
    · rw [spTo_miss _ _ _ h] at hp
      exact spTo_part b l k p hp
theorem splitB_part {b : UInt8} {l p : List UInt8} (h : p ∈ splitB b l) : p.length ≤ l.length := by
  unfold splitB at h
  rcases List.mem_append.1 h with h | h
  · exact spTo_part b l _ p h
  · have e : p = l.drop (spTo b l l.length).2 := by simpa using h
    rw [e, List.length_drop]
    omega
theorem splitB_ne (b : UInt8) (l : List UInt8) : 1 ≤ (splitB b l).length := by simp [splitB]
/-- A byte of the whole is in a part. -/
theorem first_at {b : UInt8} {l : List UInt8} (h : b ∈ l) : ∃ p q, l = p ++ b :: q ∧ b ∉ p := by
  induction l with
  | nil => cases h
  | cons a l ih =>
    by_cases e : a = b
    · subst e
      exact ⟨[], l, rfl, by simp⟩
    · have h1 : b ∈ l := by
        rcases List.mem_cons.1 h with h | h
        · exact absurd h.symm e
        · exact h
      obtain ⟨p, q, rfl, hp⟩ := ih h1
      refine ⟨a :: p, q, rfl, ?_⟩
      intro h2
      rcases List.mem_cons.1 h2 with h2 | h2
      · exact e h2.symm
      · exact hp h2
theorem in_part {b c : UInt8} (hne : c ≠ b) : ∀ (n : Nat) (l : List UInt8), l.length ≤ n → c ∈ l → ∃ p ∈ splitB b l, c ∈ p
  | 0, l, hn, h => by
    have := List.length_pos_of_mem h
    omega
  | n + 1, l, hn, h => by
    by_cases hb : b ∈ l
    · obtain ⟨p, q, rfl, hp⟩ := first_at hb
      rw [splitB_cons hp]
      rcases List.mem_append.1 h with h | h
      · exact ⟨p, by simp, h⟩
      · rcases List.mem_cons.1 h with h | h
        · exact absurd h hne
        · have hl : q.length ≤ n := by simp at hn; omega
          obtain ⟨r, hr, hc⟩ := in_part hne n q hl h
          exact ⟨r, by simp [hr], hc⟩
    · rw [splitB_none hb]
      exact ⟨l, by simp, h⟩
theorem parseTo_mem : ∀ (l : List UInt8) (s : Nat), parseTo l = some s → ∀ c ∈ l, 97 ≤ c.toNat ∧ c.toNat ≤ 102 := by
  intro l
  refine snoc_ind (P := fun l => ∀ s, parseTo l = some s → ∀ c ∈ l, 97 ≤ c.toNat ∧ c.toNat ≤ 102) ?_ ?_ l
  · intro s _ c hc; cases hc
  · intro l c ih s h d hd
    rcases List.mem_append.1 hd with hd | hd
    · rw [parseTo_snoc] at h
      obtain ⟨s0, h0, _⟩ := Option.bind_eq_some_iff.1 h
      exact ih s0 h0 d hd
    · have : d = c := by simpa using hd
      subst this
      obtain ⟨a, b, _⟩ := parseTo_last l d s h
      exact ⟨a, b⟩
theorem parseSet_colon {l : List UInt8} (h : (58 : UInt8) ∈ l) : (parseSet l).2 = false := by
  unfold parseSet
  split
  · rename_i e
    rw [e] at h
    revert h
    decide
  · split
    · rename_i s hs
      have h1 := (parseTo_mem l s hs 58 h).1
      exact absurd h1 (by decide)
    · rfl

/-- What is read behind the colon. -/
def setsOk (r : List UInt8) : Bool := r.isEmpty || (splitB 44 r).all (fun p => (parseSet p).2)
def setsXs (r : List UInt8) : List Int := if r.isEmpty then [] else (splitB 44 r).map (fun p => ((parseSet p).1 : Int))
theorem setsOk_colon {r : List UInt8} (h : (58 : UInt8) ∈ r) : setsOk r = false := by
  unfold setsOk
  have h1 : r.isEmpty = false := by
    cases r with
    | nil => cases h
    | cons _ _ => rfl
  rw [h1, Bool.false_or]
  obtain ⟨p, hp, hc⟩ := in_part (b := 44) (c := 58) (by decide) r.length r (Nat.le_refl _) h
  exact List.all_eq_false.2 ⟨p, hp, by rw [parseSet_colon hc]; simp⟩
/-- The head of a text: a digit of one to six and a colon. -/
def headB (l : List UInt8) : Bool := match l with
  | c :: d :: _ => decide (49 ≤ c.toNat ∧ c.toNat ≤ 54 ∧ d = 58)
  | _ => false
def headN (l : List UInt8) : Int := match l with
  | c :: _ => (c.toNat : Int) - 48
  | _ => 0
def pcxOk (l : List UInt8) : Bool := headB l && setsOk (l.drop 2) && isCx (headN l) (setsXs (l.drop 2))
def pcxN (l : List UInt8) : Int := if pcxOk l then headN l else 0
def pcxXs (l : List UInt8) : List Int := if pcxOk l then setsXs (l.drop 2) else []
/-- The same as the reference reads it. -/
def pcs (l : List UInt8) : List (List UInt8) := splitB 58 l
def pcsOk (l : List UInt8) : Bool := decide ((pcs l).length = 2) && piOk ((pcs l).getD 0 []) && setsOk ((pcs l).getD 1 []) && isCx (piVal ((pcs l).getD 0 [])) (setsXs ((pcs l).getD 1 []))
theorem pi_digit {n : Int} {p : List UInt8} (h : piOk p = true) (hn : piVal p = n) (h1 : 1 ≤ n ∧ n ≤ 6) : ∃ c, p = [c] ∧ (c.toNat : Int) = n + 48 := by
  have h45 : ∀ t, p ≠ 45 :: t := by
    rintro t rfl
    unfold piVal at hn
    simp only at hn
    split at hn <;> omega
  have hpd : piOk p = pdOk 12 p ∧ piVal p = pdVal 12 p := by
    cases p with
    | nil => exact ⟨rfl, rfl⟩
    | cons c t =>
      have hc : c ≠ 45 := fun e => h45 t (by rw [e])
      constructor
      · unfold piOk
        split
        · rename_i e
          exact absurd (List.cons.inj e).1 hc
        · rfl
      · unfold piVal
        split
        · rename_i e
          exact absurd (List.cons.inj e).1 hc
        · rfl
  rw [hpd.1] at h
  rw [hpd.2, pdVal_yes h] at hn
  unfold pdOk at h
  rw [Bool.and_eq_true, Bool.and_eq_true] at h
  obtain ⟨⟨ha, hb⟩, hc⟩ := h
  have hl := of_decide_eq_true ha
  have hf := (fmtN_valOf hc (by omega)).2 hb
  have hv : valOf p = n.toNat := by omega
  rw [hv] at hf
  have e : ∀ m : Nat, 1 ≤ m → m ≤ 6 → fmtN m = [UInt8.ofNat (m + 48)] ∧ (UInt8.ofNat (m + 48)).toNat = m + 48 := by
    intro m h1 h2
    rcases (by omega : m = 1 ∨ m = 2 ∨ m = 3 ∨ m = 4 ∨ m = 5 ∨ m = 6) with rfl | rfl | rfl | rfl | rfl | rfl <;> decide +kernel
  obtain ⟨e1, e2⟩ := e n.toNat (by omega) (by omega)
  rw [e1] at hf
  exact ⟨_, hf.symm, by rw [e2]; omega⟩
theorem digit_pi {c : UInt8} (h : 49 ≤ c.toNat ∧ c.toNat ≤ 54) : piOk [c] = true ∧ piVal [c] = (c.toNat : Int) - 48 := by
  have hc : c = UInt8.ofNat c.toNat := by simp
  obtain ⟨m, hm⟩ : ∃ m, m = c.toNat := ⟨_, rfl⟩
  rw [← hm] at h hc ⊢
  rw [hc]
  rcases (by omega : m = 49 ∨ m = 50 ∨ m = 51 ∨ m = 52 ∨ m = 53 ∨ m = 54) with rfl | rfl | rfl | rfl | rfl | rfl <;> decide +kernel
theorem pcs_two {l : List UInt8} (h : (pcs l).length = 2) : ∃ p r, l = p ++ 58 :: r ∧ 58 ∉ p ∧ 58 ∉ r ∧ pcs l = [p, r] := by
  unfold pcs at *
  by_cases hm : (58 : UInt8) ∈ l
  · obtain ⟨p, r, rfl, hp⟩ := first_at hm
    rw [splitB_cons hp] at h ⊢
    by_cases hr : (58 : UInt8) ∈ r
    · obtain ⟨p2, r2, rfl, hp2⟩ := first_at hr
      rw [splitB_cons hp2] at h
      have h2 := splitB_ne 58 r2
      rw [List.length_cons, List.length_cons] at h
      omega
    · rw [splitB_none hr]
      exact ⟨p, r, rfl, hp, hr, rfl⟩
  · rw [splitB_none hm] at h
    simp at h
theorem pcs_eq (l : List UInt8) : pcsOk l = pcxOk l ∧ (pcxOk l = true → piVal ((pcs l).getD 0 []) = headN l ∧ setsXs ((pcs l).getD 1 []) = setsXs (l.drop 2)) := by
  by_cases h : pcxOk l = true
  · have h' := h
    unfold pcxOk at h'
    rw [Bool.and_eq_true, Bool.and_eq_true] at h'
    obtain ⟨⟨ha, hb⟩, hc⟩ := h'
    match l, ha with
    | c :: d :: r, ha =>
      have ha' : 49 ≤ c.toNat ∧ c.toNat ≤ 54 ∧ d = 58 := of_decide_eq_true ha
      obtain ⟨h1, h2, rfl⟩ := ha'
      have hr : (58 : UInt8) ∉ r := by
        intro hm
        have := setsOk_colon hm
        rw [show (c :: 58 :: r).drop 2 = r from rfl, this] at hb
        cases hb
      have hcn : (58 : UInt8) ∉ [c] := by
        intro hm
        have : (58 : UInt8) = c := by simpa using hm
        rw [← this] at h2
        revert h2
        decide
      have hs : pcs (c :: 58 :: r) = [[c], r] := by
        unfold pcs
        have := splitB_cons (b := 58) (p := [c]) (q := r) hcn
        rw [splitB_none hr] at this
        exact this
      obtain ⟨e1, e2⟩ := digit_pi ⟨h1, h2⟩
      have hcx : isCx ((c.toNat : Int) - 48) (setsXs r) = true := hc
      have hb' : setsOk r = true := hb
      rw [h]
      unfold pcsOk
      rw [hs]
      refine ⟨?_, fun _ => ⟨e2, rfl⟩⟩
      show (decide (([[c], r] : List (List UInt8)).length = 2) && piOk [c] && setsOk r && isCx (piVal [c]) (setsXs r)) = true
      rw [e1, e2, hb', hcx]
      rfl
  · have hf : pcxOk l = false := by simpa using h
    refine ⟨?_, fun e => absurd e h⟩
    rw [hf]
    cases hp : pcsOk l
    · rfl
    · exfalso
      unfold pcsOk at hp
      rw [Bool.and_eq_true, Bool.and_eq_true, Bool.and_eq_true] at hp
      obtain ⟨⟨⟨ha, hb⟩, hc⟩, hd⟩ := hp
      obtain ⟨p, r, rfl, hp, hr, hs⟩ := pcs_two (of_decide_eq_true ha)
      rw [hs] at hb hc hd
      have hb' : piOk p = true := hb
      have hc' : setsOk r = true := hc
      have hd' : isCx (piVal p) (setsXs r) = true := hd
      obtain ⟨c, rfl, he⟩ := pi_digit hb' rfl ((isCx_inv hd').1)
      have h6 := (isCx_inv hd').1
      apply h
      unfold pcxOk
      show (decide (49 ≤ c.toNat ∧ c.toNat ≤ 54 ∧ (58 : UInt8) = 58) && setsOk r && isCx ((c.toNat : Int) - 48) (setsXs r)) = true
      rw [hc', decide_eq_true (by exact ⟨by omega, by omega, rfl⟩), show (c.toNat : Int) - 48 = piVal [c] by omega, hd']
      rfl
end

/- Walks: DrawSplitByte, big; the plain law of splitting and joining. -/
section
open Go.RowKit

theorem join_cons2 (x y : List UInt8) (r : List (List UInt8)) (sep : List UInt8) : Lib.join (x :: y :: r) sep = x ++ sep ++ Lib.join (y :: r) sep := by
  rw [Lib.join_cons, Lib.join_cons]
  simp [Lib.joinTail, List.append_assoc]
theorem split_join (b : UInt8) : ∀ (n : Nat) (l : List UInt8), l.length ≤ n → Lib.join (splitB b l) [b] = l ∧ ∀ p ∈ splitB b l, b ∉ p
  | n, l, h => by
    by_cases hb : b ∈ l
    · obtain ⟨p, q, rfl, hp⟩ := first_at hb
      rw [splitB_cons hp]
      have hl : q.length < n := by simp at h; omega
      obtain ⟨h1, h2⟩ := split_join b (n - 1) q (by omega)
      have hne := splitB_ne b q
      constructor
      · cases hs : splitB b q with
        | nil => rw [hs] at hne; simp at hne
        | cons x r =>
          rw [hs] at h1
          rw [join_cons2, h1]
          simp
      · intro x hx
        rcases List.mem_cons.1 hx with rfl | hx
        · exact hp
        · exact h2 x hx
    · rw [splitB_none hb]
      refine ⟨Lib.join_one l [b], fun p hp => ?_⟩
      have : p = l := by simpa using hp
      rw [this]
      exact hb
termination_by n _ _ => n
decreasing_by omega
theorem lens_le {m : Nat} : ∀ {ls : List (List UInt8)}, (∀ p ∈ ls, p.length ≤ m) → Lib.lens ls ≤ m * ls.length
  | [], _ => by simp [Lib.lens]
  | x :: r, h => by
    have h1 := lens_le (ls := r) (fun p hp => h p (by simp [hp]))
    have h2 := h x (by simp)
    have e : Lib.lens (x :: r) = x.length + Lib.lens r := by simp [Lib.lens]
    rw [e, List.length_cons, Nat.mul_add, Nat.mul_one]
    omega
theorem bigS (v : Value) (L : List UInt8) (w : World) (h : BytesAt w w.heap.size v L) :
    Calls Tryz.prog 4 #[v] w fun e w' => e = .returned (.bool (decide (1048576 < (L.length : Int)))) ∧ w = w' := by
  obtain ⟨A, c, hv, hc, _⟩ := h
  have hl : (bytesV L).length = L.length := List.length_map _
  rw [hl] at hv hc
  subst hv
  go_enter Tryz.func4, Tryz.ntmps4
  go_wp2
  go_ret
  exact ⟨rfl, rfl⟩
theorem own_lit (e : TypeId) (w : World) (cs : Array Value) (h : cs.size ≤ 1048576) : OwnV e (w.alloc (.cells cs e)) w.heap.size (.slice (some ⟨w.heap.size, 0, none⟩) cs.size cs.size) cs.toList := by
  have := World.ownsRow_lit (size := 1) (e := e) (base := w.heap.size) w cs cs.size (Nat.le_refl _) (by unfold maxLen; omega) (by omega)
  show (w.alloc (.cells cs e)).ownsRow w.heap.size e 1 _ cs.toList.length cs.toList
  rw [Array.length_toList]
  exact this
theorem CurAt.low {B : Nat} {W W' : World} {p : Nat} {v : Value} {L : List UInt8} (h : CurAt W p v L) (hp : p < B) (k : Below B W W') : CurAt W' p v L := by
  obtain ⟨⟨i, x, i0, i1, h0, h1, h2⟩, f1, f2, hr⟩ := h
  obtain ⟨hc, hf⟩ := bcell k
  exact ⟨⟨i, x, i0, i1, (hc p 0 hp).trans h0, (hc p 1 hp).trans h1, (hc p 2 hp).trans h2⟩, (hf p 1 hp).trans f1, (hf p 2 hp).trans f2, hr.keep fun b o hb => hc b o (by omega)⟩
theorem grown_of_below {W a b : World} {row : Option Nat} (h : W.grownBy a row) (k : Below W.heap.size a b) : W.grownBy b row :=
  ⟨k.os.trans h.os, k.tape.trans h.tape, k.output.trans h.output, Nat.le_trans h.size k.size, fun i hi hne => (k.block i hi).trans (h.block i hi hne)⟩
/-- What a draw leaves of old memory. -/
theorem cur_below {B : Nat} {w W W' : World} {p : Nat} (h : Below B w W) (hz : B ≤ W.heap.size) (g : W.grownBy W' (some p)) (hp : B ≤ p) : Below B w W' :=
  h.trans (grown_below g hz (fun k hk => by cases hk; exact hp))

theorem lit_strs (w : World) (ls : List (List UInt8)) (T : TypeId) (h : ls.length ≤ 1048576) : StrsAt (w.alloc (.cells (strsV ls).toArray T)) (w.alloc (.cells (strsV ls).toArray T)).heap.size (.slice (some ⟨w.heap.size, 0, none⟩) ls.length ls.length) ls := by
  have h1 := own_reads (own_lit T w (strsV ls).toArray (by simpa using h))
  have e : (strsV ls).toArray.size = ls.length := by simp
  rw [e] at h1
  simpa using h1
theorem lit_ints (w : World) (xs : List Int) (T : TypeId) (h : xs.length ≤ 1048576) : IntsAt (w.alloc (.cells (ints xs).toArray T)) (w.alloc (.cells (ints xs).toArray T)).heap.size (.slice (some ⟨w.heap.size, 0, none⟩) xs.length xs.length) xs := by
  have h1 := own_reads (own_lit T w (ints xs).toArray (by simpa using h))
  have e : (ints xs).toArray.size = xs.length := by simp
  rw [e] at h1
  simpa using h1
theorem grown_of_alloc {w W' : World} {o : Obj} {row : Option Nat} (h : (w.alloc o).grownBy W' row) : w.grownBy W' row := grown_trans (World.grownBy_alloc w o row) h
/-- A pick out of a literal list: behind it the cursor has moved and new memory lies. -/
theorem pickLitS (p : Nat) (v : Value) (L : List UInt8) (ls : List (List UInt8)) (T : TypeId) (W : World) (h : CurAt W p v L) (hL : L.length ≤ 1073741824) (h0 : 0 < ls.length) (h1 : ls.length ≤ 1048576) :
    Calls Tryz.prog 68 #[.pointer (some ⟨p, 0, none⟩), .slice (some ⟨W.heap.size, 0, none⟩) ls.length ls.length] (W.alloc (.cells (strsV ls).toArray T)) fun e W' => ∃ l : List UInt8, l ∈ ls ∧ e = .returned (.string ⟨l.toArray⟩) ∧ CurAt W' p v L ∧ W.grownBy W' (some p) := by
  have hl := h.lt
  refine (l1PickS p v L _ ls _ (h.to (below_alloc _ _)) hL (lit_strs W ls T h1) h0 h1 (fun j hj => ?_) (fun b o n c e => ?_)).mono fun _ _ ⟨l, h1, h2, h3, h4⟩ => ⟨l, h1, h2, h3, grown_of_alloc h4⟩
  · have : some W.heap.size = some j := hj
    have := Option.some.inj this
    omega
  · cases e
    omega
theorem pickLitIntS (p : Nat) (v : Value) (L : List UInt8) (xs : List Int) (T : TypeId) (W : World) (h : CurAt W p v L) (hL : L.length ≤ 1073741824) (h0 : 0 < xs.length) (h1 : xs.length ≤ 1048576) :
    Calls Tryz.prog 41 #[.pointer (some ⟨p, 0, none⟩), .slice (some ⟨W.heap.size, 0, none⟩) xs.length xs.length] (W.alloc (.cells (ints xs).toArray T)) fun e W' => ∃ x : Int, x ∈ xs ∧ e = .returned (.int .i64 x) ∧ CurAt W' p v L ∧ W.grownBy W' (some p) := by
  have hl := h.lt
  refine (l1PickIntS p v L _ xs _ (h.to (below_alloc _ _)) hL (lit_ints W xs T h1) h0 h1 (fun b o n c e => ?_)).mono fun _ _ ⟨x, h1, h2, h3, h4⟩ => ⟨x, h1, h2, h3, grown_of_alloc h4⟩
  cases e
  omega
end

/- Walks: the laws' helpers on lists of ints. -/
section
open Go.RowKit

/-- k, k + 1, .., n of them. -/
def marks (k : Int) (n : Nat) : List Int := (List.range n).map (fun (i : Nat) => k + (i : Int))
theorem marks_len (k : Int) (n : Nat) : (marks k n).length = n := by simp [marks]
theorem marks_succ (k : Int) (n : Nat) : marks k (n + 1) = marks k n ++ [k + (n : Int)] := by simp [marks, List.range_succ]
theorem marks_get (k : Int) (n i : Nat) (h : i < n) : (marks k n)[i]? = some (k + (i : Int)) := by simp [marks, h]
theorem marked_set (k : Int) (xs : List Int) (i : Nat) (h : i < xs.length) : (marks k i ++ xs.drop i).set i (k + (i : Int)) = marks k (i + 1) ++ xs.drop (i + 1) := by
  rw [List.set_append_right _ _ (by rw [marks_len]; omega), marks_len, Nat.sub_self, List.drop_eq_getElem_cons h, List.set_cons_zero, marks_succ]
  simp
theorem marked_len (k : Int) (xs : List Int) (i : Nat) (h : i ≤ xs.length) : (marks k i ++ xs.drop i).length = xs.length := by
  simp [marks_len]; omega
end

/- Walks: the draws of sets: l2Sets, l1Turned, DrawIsSet, DrawBeforeSet, DrawParseSet, DrawMaximalSets; sameInts. -/
section
open Go.RowKit

theorem sameIntsS (v1 v2 : Value) (xs ys : List Int) (w : World) (h1 : IntsAt w w.heap.size v1 xs) (h2 : IntsAt w w.heap.size v2 ys) (hl1 : xs.length ≤ 1073741824) (_hl2 : ys.length ≤ 1073741824) :
    Calls Tryz.prog 29 #[v1, v2] w fun e w' => RetB w (decide (xs = ys)) e w' := by
  obtain ⟨A1, c1, rfl, hc1, he1⟩ := form_ h1
  obtain ⟨A2, c2, rfl, hc2, he2⟩ := form_ h2
  clear h1 h2
  by_cases hl : xs.length = ys.length
  · have hlen := hide hl
    have hbe : ((xs.length : Int) != (ys.length : Int)) = false := by rw [hl]; simp
    have h12 : xs.length ≤ ys.length := by omega
    have h21 : ys.length ≤ xs.length := by omega
    clear hl
    go_enter Tryz.func29, Tryz.ntmps29
    go_wp2
    go_loopw [5] (fun i wr => ∃ (k n : Nat), k ≤ xs.length ∧ i = .int .i64 k ∧ xs.take k = ys.take k ∧ wr = w.drewN n) (fun i _ => xs.length - (intOf i).toNat)
    case atStart => exact ⟨0, 0, by omega, rfl, by simp, rfl⟩
    case round =>
      obtain ⟨k, n, hk, rfl, ht, rfl⟩ := hrel
      have Ht := hide ht
      clear ht
      by_cases hlt : k < xs.length
      · have hlt2 : k < ys.length := by omega
        obtain ⟨b1, o1, x, rfl, hb1, hx, hcx⟩ := he1 k hlt
        obtain ⟨b2, o2, y, rfl, hb2, hy, hcy⟩ := he2 k hlt2
        have Hx := hide hx
        have Hy := hide hy
        clear hx hy he1 he2
        by_cases hxy : x = y
        · have hne : (x != y) = false := by simp [hxy]
          have Hxy := hide hxy
          clear hxy
          go_wp2
          go_quiet (fail)
          go_wp2
          go_roundw
          case rel => exact ⟨k + 1, _, by omega, by go_num, by rw [take_snoc _ _ _ Hx.out, take_snoc _ _ _ Hy.out, Ht.out, Hxy.out], rfl⟩
          case measure => simp [intOf]; omega
        · have hne : (x != y) = true := by simp [hxy]
          have Hxy := hide hxy
          clear hxy
          go_wp2
          go_quiet (fail)
          go_wp2
          go_ret
          refine ⟨ret_bool ?_, below_drewN (below_drewN (Below.refl _ _) _) _⟩
          symm
          apply decide_eq_false
          intro h
          have h1 := Hx.out
          have h2 := Hy.out
          rw [h, h2] at h1
          exact Hxy.out (Option.some.inj h1).symm
      · clear he1 he2
        go_wp2
        go_ret
        refine ⟨ret_bool ?_, below_drewN (Below.refl _ _) _⟩
        symm
        apply decide_eq_true
        have := Ht.out
        rwa [take_all _ _ (by omega), take_all _ _ (by omega)] at this
  · have hlen := hide hl
    have hbe : ((xs.length : Int) != (ys.length : Int)) = true := by simp; omega
    clear hl he1 he2
    go_enter Tryz.func29, Tryz.ntmps29
    go_wp2
    go_ret
    refine ⟨ret_bool ?_, Below.refl _ _⟩
    symm
    apply decide_eq_false
    intro h
    exact hlen.out (by rw [h])
theorem sameInts_same (v1 v2 : Value) (xs : List Int) (w : World) (h1 : IntsAt w w.heap.size v1 xs) (h2 : IntsAt w w.heap.size v2 xs) (hl : xs.length ≤ 1073741824) :
    Calls Tryz.prog 29 #[v1, v2] w fun e w' => RetB w true e w' := by
  have h := sameIntsS v1 v2 xs xs w h1 h2 hl hl
  rwa [show decide (xs = xs) = true by simp] at h

/-- Two small ints are returned. -/
def Ret2 (w : World) (e : Ending) (w' : World) : Prop := ∃ a b : Int, -100 ≤ a ∧ a ≤ 100 ∧ -100 ≤ b ∧ b ≤ 100 ∧ e = .returned (.tuple #[.int .i64 a, .int .i64 b]) ∧ Below w.heap.size w w'
/-- Few small ints. -/
def Small (xs : List Int) : Prop := xs.length ≤ 6 ∧ ∀ x ∈ xs, -1 ≤ x ∧ x ≤ 64
theorem l2SetsS (p : Nat) (v : Value) (L : List UInt8) (W : World) (h : CurAt W p v L) (hL : L.length ≤ 1073741824) :
    Calls Tryz.prog 42 #[.pointer (some ⟨p, 0, none⟩)] W fun e W' => ∃ (u : Value) (xs : List Int), Small xs ∧ e = .returned u ∧ OwnV 3 W' W.heap.size u (ints xs) ∧ CurAt W' p v L ∧ W.grownBy W' (some p) := by
  have H := hide h
  have hp := h.lt
  clear h
  obtain ⟨w1, hW1, ho, hb⟩ : ∃ X, W.alloc (.cells #[] 3) = X ∧ OwnV 3 X W.heap.size (.slice (some ⟨W.heap.size, 0, none⟩) 0 0) (ints []) ∧ Below W.heap.size W X := ⟨_, rfl, own_empty _ _, below_alloc _ _⟩
  have C1 := hide (H.out.to hb)
  have G1 : Hid (W.grownBy w1 (some p)) := by rw [← hW1]; exact World.grownBy_alloc _ _ _
  have Ho := hide ho
  have hz1 := hb.size
  clear ho hb
  go_enter Tryz.func42, Tryz.ntmps42
  go_wp2_with fail
  clear hW1
  refine (l1BelowS p v L _ w1 C1.out hL (by omega)).mono ?_
  rintro e w2 ⟨n, hn, _, rfl, c2, g2⟩
  have hn7 := hn (by omega)
  have G2 := hide (grown_trans G1.out g2)
  have C2 := hide c2
  have O2 : Hid (∃ xs, Small xs ∧ xs.length = 0 ∧ OwnV 3 w2 W.heap.size (.slice (some ⟨W.heap.size, 0, none⟩) 0 0) (ints xs)) := ⟨[], ⟨by simp, by simp⟩, rfl, own_grown Ho.out g2 (fun j hj e => by
    have h1 : W.heap.size = j := Option.some.inj (show some W.heap.size = some j from hj)
    have h2 := Option.some.inj e
    omega)⟩
  clear c2 g2 hn
  go_wp2_with fail
  go_loopw [3, 5] (fun u i wr => ∃ k : Nat, k ≤ n ∧ i = .int .i64 k ∧ Hid (∃ xs, Small xs ∧ xs.length = k ∧ OwnV 3 wr W.heap.size u (ints xs)) ∧ Hid (CurAt wr p v L) ∧ Hid (W.grownBy wr (some p))) (fun _ i _ => n - (intOf i).toNat)
  case atStart => exact ⟨0, by omega, rfl, O2, C2, G2⟩
  case round =>
    obtain ⟨k, hk, rfl, hown, hc, hg⟩ := hrel
    obtain ⟨xs, hsm, hxl, ho⟩ := hown.out
    have Hsm := hide hsm
    have Ho2 := hide ho
    clear hsm ho hown
    by_cases hlt : k < n
    · go_wp2_with fail
      refine (l1BelowS p v L _ wr hc.out hL (by omega)).mono ?_
      rintro e w4 ⟨r, hr, _, rfl, c4, g4⟩
      have hr64 := hr (by omega)
      have hne : ∀ j, Value.ownBlock _ = some j → (some p : Option Nat) ≠ some j := fun j hj e => by
        have h1 := (own_block Ho2.out j hj).1
        have h2 := Option.some.inj e
        omega
      have ho4 := own_grown Ho2.out g4 hne
      have G4 := hide (grown_trans hg.out g4)
      have C4 := hide c4
      have hlen : xs.length < 17179869184 := by omega
      have hsz : W.heap.size ≤ w4.heap.size := G4.out.size
      clear c4 g4 hr hne
      go_wp2_with (at_builtin; refine wpList_appI ho4 (r : Int) Tryz.underlying24 infoI rfl _ _ rfl rfl rfl hlen hsz ?_; intro v' w5 hown5 hb5 hg5)
      have C5 : Hid (CurAt w5 p v L) := by
        have hb : ∀ i, i < W.heap.size → w5.heap[i]? = w4.heap[i]? := fun i hi => hb5.block i hi
        exact CurAt.low C4.out hp hb5
      have G5 : Hid (W.grownBy w5 (some p)) := grown_of_below G4.out hb5
      have O5 : Hid (∃ ys, Small ys ∧ ys.length = k + 1 ∧ OwnV 3 w5 W.heap.size v' (ints ys)) := ⟨xs ++ [(r : Int)], ⟨by rw [List.length_append]; simp; omega, fun x hx => by
        rcases List.mem_append.1 hx with hx | hx
        · exact Hsm.out.2 x hx
        · have : x = (r : Int) := by simpa using hx
          omega⟩, by rw [List.length_append, hxl]; rfl, hown5⟩
      go_wp2
      go_roundw
      case rel => exact ⟨k + 1, by omega, by go_num, O5, C5, G5⟩
      case measure => simp [intOf]; omega
    · have hkn : k = n := by omega
      subst hkn
      have hnp : ∀ j, Value.ownBlock _ = some j → (some p : Option Nat) ≠ some j := fun j hj e => by
        have h1 := (own_block Ho2.out j hj).1
        have h2 := Option.some.inj e
        omega
      have Hnp := hide hnp
      clear hnp
      by_cases hk0 : k = 0
      · subst hk0
        go_wp2
        go_ret
        exact ⟨_, xs, Hsm.out, rfl, Ho2.out, hc.out, hg.out⟩
      · have hkpos : 0 < k := by omega
        clear hlt
        go_wp2_with fail
        refine (l1OnceS p v L _ wr hc.out hL (by omega)).mono ?_
        rintro e w6 ⟨b, rfl, c6, g6⟩
        have C6 := hide c6
        have G6 := hide (grown_trans hg.out g6)
        have O6 := hide (own_grown Ho2.out g6 Hnp.out)
        clear c6 g6
        cases b
        · go_wp2
          go_ret
          exact ⟨_, xs, Hsm.out, rfl, O6.out, C6.out, G6.out⟩
        · go_wp2_with fail
          refine (pickLitIntS p v L [-1, 64, 63] _ w6 C6.out hL (by decide) (by decide)).mono ?_
          rintro e w7 ⟨x, hx, rfl, c7, g7⟩
          have C7 := hide c7
          have G7 := hide (grown_trans G6.out g7)
          have O7 := hide (own_grown O6.out g7 Hnp.out)
          have hx' : -1 ≤ x ∧ x ≤ 64 := by
            simp only [List.mem_cons, List.not_mem_nil, or_false] at hx
            omega
          clear c7 g7 hx
          rcases own_form O7.out with ⟨_, h0⟩ | ⟨g, cap, hv, hg1, hg2, hcap⟩
          · have h3 : xs = [] := by simpa [ints] using h0
            rw [h3] at hxl
            exact absurd hxl (by simp; omega)
          · rw [ints_length] at hv
            subst hv
            have hv' : (Value.slice (some ⟨g, 0, none⟩) xs.length cap) = .slice (some ⟨g, 0, none⟩) (ints xs).length cap := by rw [ints_length]
            have hx0 : 0 < xs.length := by omega
            obtain ⟨u, hu⟩ : ∃ u, (ints xs)[0]? = some u := ⟨_, List.getElem?_eq_getElem (by rw [ints_length]; exact hx0)⟩
            obtain ⟨hcg, hfg⟩ := own_cell O7.out hv' hu
            have hset := own_set O7.out hv' 0 (.int .i64 x)
            have hse : (ints xs).set 0 (.int .i64 x) = ints (xs.set 0 x) := (List.map_set).symm
            rw [hse] at hset
            have Hset := hide hset
            have Hsm2 : Hid (Small (xs.set 0 x)) := ⟨by rw [List.length_set]; exact Hsm.out.1, fun y hy => by
              rcases List.mem_or_eq_of_mem_set hy with h | h
              · exact Hsm.out.2 y h
              · rw [h]; exact hx'⟩
            have hgp : p ≠ g := by omega
            have C8 : Hid (CurAt (w7.setCell ⟨g, 0, none⟩ (.int .i64 x)) p v L) := CurAt.low C7.out hp ((Below.refl W.heap.size w7).setCell (by exact hg1) _)
            have G8 : Hid (W.grownBy (w7.setCell ⟨g, 0, none⟩ (.int .i64 x)) (some p)) := grown_of_below G7.out ((Below.refl W.heap.size w7).setCell (by exact hg1) _)
            have hxl0 : (xs.set 0 x).length = xs.length := List.length_set
            have HO8 : Hid (OwnV 3 (w7.setCell ⟨g, 0, none⟩ (.int .i64 x)) W.heap.size (.slice (some ⟨g, 0, none⟩) xs.length cap) (ints (xs.set 0 x))) := Hset.out
            clear hv' hu hset hse hcap
            go_wp2
            go_ret
            exact ⟨.slice (some ⟨g, 0, none⟩) k cap, xs.set 0 x, Hsm2.out, rfl, by rw [← hxl]; exact HO8.out, C8.out, G8.out⟩
theorem setTxtOf_len2 (s : Int) : (setTxtOf s).length ≤ 6 := by
  unfold setTxtOf
  split
  · unfold setTxt
    split
    · simp
    · exact txtTo_len _ 6
  · simp
/-- Some text of bounded length. -/
theorem l1TurnedS (p : Nat) (v : Value) (L : List UInt8) (l : List UInt8) (u : Value) (ls : List (List UInt8)) (W : World) (h : CurAt W p v L) (hL : L.length ≤ 1073741824) (hl : l.length ≤ 1048576) (hr : StrsAt W W.heap.size u ls) (h0 : 0 < ls.length) (h1 : ls.length ≤ 1048576) (hls : ∀ x ∈ ls, x.length ≤ 1048576) (hne : ∀ j, u.ownBlock = some j → j ≠ p) (hb : ∀ b o n c, u = .slice (some ⟨b, o, none⟩) n c → b ≠ p) :
    Calls Tryz.prog 33 #[.pointer (some ⟨p, 0, none⟩), .string ⟨l.toArray⟩, u] W fun e W' => ∃ s : List UInt8, s.length ≤ 3145728 ∧ e = .returned (.string ⟨s.toArray⟩) ∧ CurAt W' p v L ∧ W.grownBy W' (some p) := by
  obtain ⟨A, c, hu, _, he⟩ := formS_ hr
  have H := hide h
  have Hr := hide hr
  have Hls := hide hls
  have Hne := hide hne
  have Hb := hide hb
  subst hu
  have hlt := h.lt
  clear h he hls hne hb
  go_enter Tryz.func33, Tryz.ntmps33
  go_wp2_with fail
  refine (l1BelowS p v L _ W H.out hL (by omega)).mono ?_
  rintro e w1 ⟨at_, hat, _, rfl, c1, g1⟩
  have hat' := hat (by omega)
  have C1 := hide c1
  have G1 := hide g1
  have R1 : Hid (StrsAt w1 w1.heap.size (.slice A ls.length c) ls) := by
    obtain ⟨A2, c2, hv2, hc2, hx2⟩ := Hr.out
    refine ⟨A2, c2, hv2, hc2, fun hn => ?_⟩
    obtain ⟨b, o, hA, hbl, hcl⟩ := hx2 hn
    refine ⟨b, o, hA, Nat.lt_of_lt_of_le hbl g1.size, fun i x hi => g1.cell (hcl i x hi) (fun e => ?_)⟩
    have h2 : b = p := Option.some.inj e
    subst hA
    exact Hb.out b o _ _ hv2 h2
  clear c1 g1 hat
  go_wp2_with fail
  refine (l1BelowS p v L _ w1 C1.out hL (by omega)).mono ?_
  rintro e w2 ⟨r, hr2, _, rfl, c2, g2⟩
  have C2 := hide c2
  have G2 := hide (grown_trans G1.out g2)
  have R2 : Hid (StrsAt w2 w2.heap.size (.slice A ls.length c) ls) := by
    obtain ⟨A2, c2, hv2, hc2, hx2⟩ := R1.out
    refine ⟨A2, c2, hv2, hc2, fun hn => ?_⟩
    obtain ⟨b, o, hA, hbl, hcl⟩ := hx2 hn
    refine ⟨b, o, hA, Nat.lt_of_lt_of_le hbl g2.size, fun i x hi => g2.cell (hcl i x hi) (fun e => ?_)⟩
    have h2 : b = p := Option.some.inj e
    subst hA
    exact Hb.out b o _ _ hv2 h2
  clear c2 g2 hr2
  have hx1 : (⟨l.toArray⟩ : ByteArray).extract 0 at_ = ⟨(l.take at_).toArray⟩ := by rw [cut_eq]; simp
  have hx2 : (⟨l.toArray⟩ : ByteArray).extract at_ l.length = ⟨(l.drop at_).toArray⟩ := by rw [cut_eq, List.take_of_length_le (by rw [List.length_drop]; omega)]
  by_cases r0 : r = 0
  · subst r0
    go_wp2_with fail
    have C2d : CurAt w2.drew p v L := C2.out
    have R2d : StrsAt w2.drew w2.drew.heap.size (.slice A ls.length c) ls := R2.out
    have G2d : W.grownBy w2.drew (some p) := grown_drew G2.out
    have hcat : ∀ x : List UInt8, (⟨(l.take at_).toArray⟩ : ByteArray) ++ ⟨x.toArray⟩ = ⟨(l.take at_ ++ x).toArray⟩ := fun x => by
      apply ByteArray.ext
      simp
    have hcat2 : ∀ x : List UInt8, (⟨(l.take at_ ++ x).toArray⟩ : ByteArray) ++ ⟨(l.drop at_).toArray⟩ = ⟨((l.take at_ ++ x) ++ l.drop at_).toArray⟩ := fun x => by
      apply ByteArray.ext
      simp
    have hatN : at_ ≤ l.length := by omega
    have hat0 : (0 : Int) ≤ (at_ : Int) := by omega
    have hat1 : (at_ : Int) ≤ (l.length : Int) := by omega
    have htl : (l.take at_).length = at_ := by rw [List.length_take]; omega
    have hdl : (l.drop at_).length = l.length - at_ := List.length_drop
    go_region_with (go_at_call 68; refine (l1PickS p v L _ ls _ C2d hL R2d h0 h1 Hne.out Hb.out).mono ?_; rintro e w3 ⟨x, hx, rfl, c3, g3⟩; have hxl := Hls.out x hx)
    have C3 := hide c3
    have G3 := hide (grown_trans G2d g3)
    clear c3 g3 C2d R2d G2d
    go_wp2
    go_ret
    refine ⟨l.take at_ ++ (x ++ l.drop at_), ?_, rfl, C3.out, G3.out⟩
    rw [List.length_append, List.length_append]
    omega
  · by_cases r1 : r = 1
    · subst r1
      have hat0 : (0 : Int) ≤ (at_ : Int) := by omega
      have hat1 : (at_ : Int) ≤ (l.length : Int) := by omega
      go_wp2
      go_ret
      exact ⟨l.take at_, by rw [List.length_take]; omega, rfl, C2.out, G2.out⟩
    · have hr0 : ((r : Int) == 0) = false := by rw [beq_eq_false_iff_ne]; omega
      have hr1 : ((r : Int) == 1) = false := by rw [beq_eq_false_iff_ne]; omega
      go_wp2
      go_ret
      exact ⟨l, by omega, rfl, C2.out, G2.out⟩
end

/- Walks: the laws' helpers on complexes: copies, sizes, comparing, marking. -/
section
open Go.RowKit

theorem copied_set (xs : List Int) (i : Nat) (x : Int) (h : xs[i]? = some x) : (xs.take i ++ List.replicate (xs.length - i) 0).set i x = xs.take (i + 1) ++ List.replicate (xs.length - (i + 1)) 0 := by
  have hl := (List.getElem?_eq_some_iff.1 h).1
  have ht : (xs.take i).length = i := by rw [List.length_take]; omega
  rw [List.set_append_right _ _ (by omega), ht, Nat.sub_self, show xs.length - i = (xs.length - (i + 1)) + 1 by omega, List.replicate_succ, List.set_cons_zero, take_snoc _ _ _ h]
  simp
theorem copied_len (xs : List Int) (i : Nat) (h : i ≤ xs.length) : (xs.take i ++ List.replicate (xs.length - i) (0 : Int)).length = xs.length := by
  rw [List.length_append, List.length_take, List.length_replicate]
  omega
/-- The call returns a complex whose facets are its own. -/
def RetC (e0 : TypeId) (w : World) (n : Int) (xs : List Int) (e : Ending) (w' : World) : Prop := ∃ v, e = .returned (.agg #[.int .i64 n, v]) ∧ OwnV e0 w' w.heap.size v (ints xs) ∧ Below w.heap.size w w'
end

/- Boxed complexes: parameters and locals of a struct of an int and a slice. -/
section
open Go.RowKit

/-- The block b holds x and y. -/
def AtC (w : World) (b : Nat) (x y : Value) : Prop := w.cell? ⟨b, 0, none⟩ = some x ∧ w.cell? ⟨b, 1, none⟩ = some y
theorem AtC.to {W w' : World} {b : Nat} {x y : Value} (h : AtC W b x y) (c : Below W.heap.size W w') : AtC w' b x y :=
  ⟨(c.cell (p := ⟨b, 0, none⟩) (World.block_lt_of_cell? _ _ h.1)).trans h.1, (c.cell (p := ⟨b, 1, none⟩) (World.block_lt_of_cell? _ _ h.2)).trans h.2⟩
theorem AtC.grown {W W' : World} {b : Nat} {x y : Value} {row : Option Nat} (h : AtC W b x y) (hg : W.grownBy W' row) (hne : row ≠ some b) : AtC W' b x y :=
  ⟨hg.cell h.1 (fun e => hne e.symm), hg.cell h.2 (fun e => hne e.symm)⟩
theorem AtC.lt {W : World} {b : Nat} {x y : Value} (h : AtC W b x y) : b < W.heap.size := World.block_lt_of_cell? _ _ h.1
theorem boxC (w : World) (x y : Value) (T : TypeId) : ∃ W, w.alloc (.cells #[x, y] T) = W ∧ AtC W w.heap.size x y ∧ Below w.heap.size w W ∧ W.heap.size = w.heap.size + 1 :=
  ⟨_, rfl, ⟨World.cell?_alloc_at _ _ _ _ rfl, World.cell?_alloc_at _ _ _ _ rfl⟩, below_alloc _ _, by simp⟩
/-- A local of a struct, made and stored into. -/
theorem localC (w : World) (x y x0 y0 : Value) (T : TypeId) : ∃ W, ((w.alloc (.cells #[x0, y0] T)).setCell ⟨w.heap.size, 0, none⟩ x).setCell ⟨w.heap.size, 1, none⟩ y = W ∧ AtC W w.heap.size x y ∧ Below w.heap.size w W ∧ W.heap.size = w.heap.size + 1 := by
  refine ⟨_, rfl, ⟨?_, ?_⟩, ?_, ?_⟩
  · simp [go_sem]
  · simp [go_sem]
  · go_grown
  · simp
end

/- Walks: families of sets as numbers. -/
section
open Go.RowKit

/-- The order of two sets; of what is no set, false. -/
def beforeSet (a b : Int) : Bool := decide (0 ≤ a ∧ a < 64) && decide (0 ≤ b ∧ b < 64) && beforeI a b
theorem beforeSet_yes {a b : Int} (ha : 0 ≤ a ∧ a < 64) (hb : 0 ≤ b ∧ b < 64) : beforeSet a b = beforeI a b := by simp [beforeSet, ha, hb]
theorem beforeSet_no1 {a b : Int} (ha : ¬ (0 ≤ a ∧ a < 64)) : beforeSet a b = false := by unfold beforeSet; rw [decide_eq_false ha]; rfl
theorem beforeSet_no2 {a b : Int} (hb : ¬ (0 ≤ b ∧ b < 64)) : beforeSet a b = false := by unfold beforeSet; rw [decide_eq_false hb]; simp

theorem beforeSetI (a b : Int) (w : World) : Calls Tryz.prog 75 #[.int .i64 a, .int .i64 b] w fun e w' => e = .returned (.bool (beforeSet a b)) ∧ w = w' := by
  by_cases ha : 0 ≤ a ∧ a < 64
  · have h1 : isSetB 6 a = true := by rw [isSetB_six]; exact decide_eq_true ha
    by_cases hb : 0 ≤ b ∧ b < 64
    · have h2 : isSetB 6 b = true := by rw [isSetB_six]; exact decide_eq_true hb
      obtain ⟨x, rfl⟩ := Int.eq_ofNat_of_zero_le ha.1
      obtain ⟨y, rfl⟩ := Int.eq_ofNat_of_zero_le hb.1
      have H := hide (show beforeSet (x : Int) (y : Int) = (decide (pc x < pc y) || (decide (pc x = pc y) && decide (x < y))) by
        rw [beforeSet_yes ha hb]
        simp [beforeI])
      have sx := sizeOf_yes (s := x) (by omega)
      have sy := sizeOf_yes (s := y) (by omega)
      generalize pc x = p at H sx
      generalize pc y = q at H sy
      by_cases hpq : p = q
      · subst hpq
        have hne : ((p : Int) != (p : Int)) = false := by simp
        go_enter Tryz.func75, Tryz.ntmps75
        go_wp2_with (first | (go_at_call 54; refine (isSetI _ _ _).mono ?_; rintro e w' ⟨rfl, rfl⟩) | (go_at_call 77; refine (sizeOfI _ _).mono ?_; rintro e w' ⟨rfl, rfl⟩))
        go_ret
        exact ⟨ret_bool (by rw [H.out]; simp), rfl⟩
      · have hne : ((p : Int) != (q : Int)) = true := by simp; omega
        go_enter Tryz.func75, Tryz.ntmps75
        go_wp2_with (first | (go_at_call 54; refine (isSetI _ _ _).mono ?_; rintro e w' ⟨rfl, rfl⟩) | (go_at_call 77; refine (sizeOfI _ _).mono ?_; rintro e w' ⟨rfl, rfl⟩))
        go_ret
        exact ⟨ret_bool (by rw [H.out]; simp [hpq]), rfl⟩
    · have h2 : isSetB 6 b = false := by rw [isSetB_six]; exact decide_eq_false hb
      have H := hide (beforeSet_no2 (a := a) hb)
      clear ha hb
      go_enter Tryz.func75, Tryz.ntmps75
      go_wp2_with (go_at_call 54; refine (isSetI _ _ _).mono ?_; rintro e w' ⟨rfl, rfl⟩)
      go_ret
      exact ⟨ret_bool H.out.symm, rfl⟩
  · have h1 : isSetB 6 a = false := by rw [isSetB_six]; exact decide_eq_false ha
    have H := hide (beforeSet_no1 (b := b) ha)
    clear ha
    go_enter Tryz.func75, Tryz.ntmps75
    go_wp2_with (go_at_call 54; refine (isSetI _ _ _).mono ?_; rintro e w' ⟨rfl, rfl⟩)
    go_ret
    exact ⟨ret_bool H.out.symm, rfl⟩

theorem or_fam (P : Nat → Bool) (m : Nat) (hm : m < 64) : bits BinOp.or IntKind.u64 (fam P : Int) (IntKind.u64.wrap (2 ^ m)) = ((fam (fun s => P s || s == m) : Nat) : Int) := by
  have hp : 2 ^ m < 18446744073709551616 := Nat.pow_lt_pow_right (n := 64) (by omega) hm
  have e : ((2 : Int) ^ m) = ((2 ^ m : Nat) : Int) := by simp
  have hf := fam_lt P
  rw [← fam_add P m hm, e]
  generalize 2 ^ m = q at hp
  rw [IntWalk.u64_in _ (by omega), u64_or_nat _ _ hf hp]

/-- The call returns a family's number and a bool. -/
def RetFB (w : World) (F : Nat) (b : Bool) (e : Ending) (w' : World) : Prop := e = .returned (.tuple #[.int .u64 (F : Int), .bool b]) ∧ w = w'
theorem familyOfI (v : Value) (xs : List Int) (w : World) (h : IntsAt w w.heap.size v xs) (hl : xs.length ≤ 1073741824) :
    Calls Tryz.prog 44 #[v] w fun e w' => RetFB w (famRes xs) (allSets xs) e w' := by
  obtain ⟨A, c, rfl, hc, he⟩ := form_ h
  have He := hide he
  clear h he
  go_enter Tryz.func44, Tryz.ntmps44
  go_wp2
  go_loop [4, 9] (fun f i => ∃ k : Nat, k ≤ xs.length ∧ i = .int .i64 k ∧ Hid (allSets (xs.take k) = true) ∧ f = .int .u64 (famList (xs.take k) : Int)) (fun _ i => xs.length - (intOf i).toNat)
  case atStart => exact ⟨0, by omega, rfl, rfl, by
    rw [List.take_zero, famList_nil]; rfl⟩
  case round =>
    obtain ⟨k, hk, rfl, ha, rfl⟩ := hrel
    by_cases hlt : k < xs.length
    · obtain ⟨b, o, x, rfl, hb, hx, hcx⟩ := He.out k hlt
      have Hs := hide (take_snoc _ _ _ hx)
      clear hx
      by_cases hx2 : 0 ≤ x ∧ x < 64
      · have h1 : isSetB 6 x = true := by rw [isSetB_six]; exact decide_eq_true hx2
        have Ha : Hid (allSets (xs.take (k + 1)) = true) := by
          show _ = _
          rw [Hs.out, allSets_snoc, ha.out, decide_eq_true hx2]
          rfl
        obtain ⟨m, rfl⟩ := Int.eq_ofNat_of_zero_le hx2.1
        have hm : m < 64 := by omega
        have Hf := hide (or_fam (inList (xs.take k)) m hm)
        have Hf2 := hide (show fam (fun s => inList (xs.take k) s || s == m) = famList (xs.take (k + 1)) by
          unfold famList
          apply fam_congr
          intro s _
          rw [Hs.out, inList_snoc])
        clear hx2
        go_wp2_with (go_at_call 54; refine (isSetI _ _ _).mono ?_; rintro e w' ⟨rfl, rfl⟩)
        go_round
        case rel => exact ⟨k + 1, by omega, by go_num, Ha, by
          show Value.int .u64 (bits BinOp.or IntKind.u64 (fam (inList (xs.take k)) : Int) (IntKind.u64.wrap (2 ^ m))) = _
          rw [Hf.out, Hf2.out]⟩
        case measure => simp [intOf]; omega
      · have h1 : isSetB 6 x = false := by rw [isSetB_six]; exact decide_eq_false hx2
        have H := hide (allSets_take_false (xs := xs) (k := k + 1) (by rw [Hs.out, allSets_snoc, decide_eq_false hx2]; simp))
        clear hx2
        go_wp2_with (go_at_call 54; refine (isSetI _ _ _).mono ?_; rintro e w' ⟨rfl, rfl⟩)
        go_ret2
        refine ⟨?_, rfl⟩
        rw [H.out, famRes_no H.out]
        rfl
    · have Hk := hide (show xs.take k = xs from take_all _ _ (by omega))
      go_wp2
      go_ret2
      refine ⟨?_, rfl⟩
      have := ha.out
      rw [Hk.out] at this ⊢
      rw [this, famRes_yes this]
      rfl

theorem setsInI (P : Nat → Bool) (w : World) : Calls Tryz.prog 62 #[.int .u64 (fam P : Int)] w fun e w' => RetI 3 w (zs (listOf P)) e w' := by
  have hF := fam_lt P
  have hB : ∀ s, s < 64 → (fam P).testBit s = P s := fun s hs => by rw [fam_bit]; simp [hs]
  have HB := hide hB
  clear hB
  generalize hFF : fam P = F at hF HB
  clear hFF
  go_enter Tryz.func62, Tryz.ntmps62
  go_wp2
  go_loopw [3, 4] (fun v i wr => ∃ k : Nat, k ≤ 7 ∧ i = .int .i64 k ∧ OwnV 3 wr w.heap.size v (ints (zs (lows P k))) ∧ Below w.heap.size w wr) (fun _ i _ => 7 - (intOf i).toNat)
  case atStart => exact ⟨0, by omega, rfl, own_nil _ _, Below.refl _ _⟩
  case round =>
    obtain ⟨k, hk, rfl, hown, hb⟩ := hrel
    have hll := lows_len P k
    by_cases hlt : k < 7
    · obtain ⟨wo, rfl⟩ : ∃ wo : World, wo = wr := ⟨_, rfl⟩
      have hk6 : decide ((k : Int) ≤ 6) = true := by simp; omega
      go_wp2
      go_loopw [3, 5] (fun v i wr => ∃ s : Nat, s ≤ 64 ∧ i = .int .i64 s ∧ OwnV 3 wr w.heap.size v (ints (zs (lows P k ++ layTo P k s))) ∧ Below w.heap.size w wr) (fun _ i _ => 64 - (intOf i).toNat)
      case atStart => exact ⟨0, by omega, rfl, by simpa [layTo] using hown, hb⟩
      case round =>
        clear hown hb
        obtain ⟨s, hs, rfl, hown, hb⟩ := hrel
        have hll2 := layTo_len P k s
        by_cases hlt2 : s < 64
        · have hz := sizeOf_yes hlt2
          have hbt := HB.out s hlt2
          by_cases hps : P s = true ∧ pc s = k
          · obtain ⟨hp1, hp2⟩ := hps
            have Hl := hide (layTo_yes hp1 hp2)
            have hlen : (zs (lows P k ++ layTo P k s)).length < 17179869184 := by simp; omega
            rw [hp1] at hbt
            subst hp2
            clear hp1
            go_wp2_with (first | (go_at_call 55; refine (hasSetI F s hF hlt2 _).mono ?_; rintro e w' ⟨rfl, rfl⟩) | (go_at_call 77; refine (sizeOfI _ _).mono ?_; rintro e w' ⟨rfl, rfl⟩) | (at_builtin; refine wpList_appI hown s Tryz.underlying24 infoI rfl _ _ rfl rfl rfl hlen hb.size ?_; intro v' w1 hown1 hb1 _))
            go_roundw
            case rel => exact ⟨s + 1, by omega, by go_num, by rw [Hl.out, ← List.append_assoc, zs_snoc]; exact hown1, hb.trans hb1⟩
            case measure => simp [intOf]; omega
          · have Hl := hide (layTo_no hps)
            cases hp1 : P s
            · rw [hp1] at hbt
              go_wp2_with (first | (go_at_call 55; refine (hasSetI F s hF hlt2 _).mono ?_; rintro e w' ⟨rfl, rfl⟩) | (go_at_call 77; refine (sizeOfI _ _).mono ?_; rintro e w' ⟨rfl, rfl⟩))
              go_roundw
              case rel => exact ⟨s + 1, by omega, by go_num, by rw [Hl.out]; exact hown, hb⟩
              case measure => simp [intOf]; omega
            · rw [hp1] at hbt
              have hne : ((pc s : Int) == (k : Int)) = false := by
                have : ¬ pc s = k := fun e => hps ⟨hp1, e⟩
                simp
                omega
              clear hps hp1
              go_wp2_with (first | (go_at_call 55; refine (hasSetI F s hF hlt2 _).mono ?_; rintro e w' ⟨rfl, rfl⟩) | (go_at_call 77; refine (sizeOfI _ _).mono ?_; rintro e w' ⟨rfl, rfl⟩))
              go_roundw
              case rel => exact ⟨s + 1, by omega, by go_num, by rw [Hl.out]; exact hown, hb⟩
              case measure => simp [intOf]; omega
        · obtain rfl : s = 64 := by omega
          go_wp2
          go_roundw
          case rel => exact ⟨k + 1, by omega, by go_num, by rw [lows_succ, ← layTo_all]; exact hown, hb⟩
          case measure => simp [intOf]; omega
    · obtain rfl : k = 7 := by omega
      go_wp2
      go_ret
      exact ⟨_, rfl, hown, hb⟩

theorem and_pred (t s : Nat) (h0 : 0 < t) (ht : t < 64) (hs : s < 64) : bits BinOp.and IntKind.i64 ((t : Int) - 1) (s : Int) = (((t - 1) &&& s : Nat) : Int) := by
  rw [← i64_and (t - 1) s (by omega) (by omega)]
  congr 1
  omega
theorem subsetFamilyI (s : Nat) (hs : s < 64) (w : World) : Calls Tryz.prog 53 #[.int .i64 (s : Int)] w fun e w' => e = .returned (.int .u64 (fam (fun u => sub u s) : Int)) ∧ w = w' := by
  go_enter Tryz.func53, Tryz.ntmps53
  go_wp2
  go_loop [3, 4] (fun f i => ∃ t : Nat, t < 64 ∧ i = .int .i64 t ∧ Hid (sub t s = true) ∧ f = .int .u64 (fam (fun u => sub u s && decide (t < u)) : Int)) (fun _ i => (intOf i).toNat)
  case atStart => exact ⟨s, hs, rfl, sub_refl s, by rw [above_start hs]; rfl⟩
  case round =>
    obtain ⟨t, ht, rfl, hsub, rfl⟩ := hrel
    have Hf := hide (or_fam (fun u => sub u s && decide (t < u)) t ht)
    by_cases h0 : 0 < t
    · have Hp := hide (prev_sub hs ht hsub.out h0)
      have Hst := hide (above_step hs ht hsub.out h0)
      have hb := and_pred t s h0 ht hs
      have hlt := Hp.out.2.1
      go_wp2
      go_round
      case rel => exact ⟨(t - 1) &&& s, by omega, rfl, Hp.out.1, by rw [Hf.out, Hst.out]⟩
      case measure => simp [intOf]; omega
    · obtain rfl : t = 0 := by omega
      go_wp2
      go_ret
      exact ⟨ret_int (by have := Hf.out; rw [above_all] at this; exact this), rfl⟩
end
end Go.Proofs.YtmkacjpjcfffmabGreatDoor
