/- Walks: Join in the program and in the reference. -/
import Derived.Test.YtmkacjpjcfffmaaDoorW1
import Derived.Test.YtmkacjpjcfffmaaDoorTxt
import Derived.Test.YtmkacjpjcfffmaaDoorShelf
import Derived.Lib.AppendStr
import Derived.Lib.Join
namespace Go.Proofs.YtmkacjpjcfffmaaDoor
open Go.RowKit

theorem join_first {ls : List (List UInt8)} {y : List UInt8} (sep : List UInt8) (h : ls[0]? = some y) : Lib.join (ls.take 1) sep = y := by
  cases ls with
  | nil => cases h
  | cons x r =>
    have : x = y := by simpa using h
    subst this
    rw [List.take_succ_cons, List.take_zero]
    exact Lib.join_one x sep
theorem join_next {ls : List (List UInt8)} {k : Nat} {y : List UInt8} (sep : List UInt8) (hk : 0 < k) (h : ls[k]? = some y) : Lib.join (ls.take (k + 1)) sep = Lib.join (ls.take k) sep ++ sep ++ y := by
  obtain ⟨j, rfl⟩ : ∃ j, k = j + 1 := ⟨k - 1, by omega⟩
  cases ls with
  | nil => cases h
  | cons x r =>
    have h' : r[j]? = some y := by simpa using h
    rw [List.take_succ_cons, List.take_succ_cons, Lib.join_cons, Lib.join_cons, Lib.joinTail_take_succ sep r j y h']
    simp [List.append_assoc]
theorem joinTail_len (sep : List UInt8) (r : List (List UInt8)) : (Lib.joinTail sep r).length = r.length * sep.length + Lib.lens r := by
  induction r with
  | nil => simp [Lib.joinTail, Lib.lens]
  | cons y r ih =>
    have e1 : Lib.joinTail sep (y :: r) = sep ++ y ++ Lib.joinTail sep r := by simp [Lib.joinTail]
    have e2 : Lib.lens (y :: r) = y.length + Lib.lens r := by simp [Lib.lens]
    rw [e1, List.length_append, List.length_append, ih, e2, List.length_cons, Nat.add_mul]
    omega
theorem join_len (ls : List (List UInt8)) (sep : List UInt8) : (Lib.join ls sep).length ≤ Lib.lens ls + ls.length * sep.length := by
  cases ls with
  | nil => simp [Lib.join_nil]
  | cons x r =>
    have e2 : Lib.lens (x :: r) = x.length + Lib.lens r := by simp [Lib.lens]
    rw [Lib.join_cons, List.length_append, joinTail_len, e2, List.length_cons, Nat.add_mul]
    omega
theorem join_take_len (ls : List (List UInt8)) (sep : List UInt8) (k : Nat) : (Lib.join (ls.take k) sep).length ≤ Lib.lens ls + ls.length * sep.length := by
  refine Nat.le_trans (join_len _ _) ?_
  have h1 := Lib.lens_take_le ls k
  have h2 : (ls.take k).length ≤ ls.length := by rw [List.length_take]; omega
  have h3 := Nat.mul_le_mul_right sep.length h2
  omega
/-- 'append(out, s...)', s a string. -/
theorem wpList_appT {P : Program} {ops : Array Oper} {rest : List Oper} {o : Oper} {a : Act} {Q : Exit → Act → World → Prop} {w : World} {B : Nat} {v : Value} {l : List UInt8} {T U E : TypeId} (hown : OwnV E w B v (bytesV l)) (s : List UInt8)
    (ht : P.underlying T = some (.slice E)) (hu : P.underlying U = some .string) (he : (P.info? E).map (fun i => (i.zero, i.size, i.bytes)) = some (some (.int .u8 0), 1, 1)) (hg : o.guard = none) (sl x : Operand)
    (hop : o.op = Op.call { callee := Callee.builtin Builtin.append, args := #[sl, x], argTypes := #[T, U] }) (hs : a.eval sl = v)
    (hx : a.eval x = .string ⟨s.toArray⟩) (hlen : l.length + s.length ≤ 140737488355328) (hB : B ≤ w.heap.size)
    (hK : ∀ v' w', OwnV E w' B v' (bytesV (l ++ s)) → Below B w w' → wpList P ops Q rest (a.put o.dst v') w') :
    wpList P ops Q (o :: rest) a w := by
  obtain ⟨i0, hi, hz0, hz1, hz2⟩ := info_parts he
  have hl : (bytesV l).length = l.length := List.length_map _
  have hsz : (⟨s.toArray⟩ : ByteArray).size = s.length := by show s.toArray.size = _; simp
  have hcs : Lib.strCells ⟨s.toArray⟩ = bytesV s := by unfold Lib.strCells; simp [bytesV]
  refine Lib.wpList_append_own_string w hg sl x T U hop B E i0 ht hu hi hz0 hz1 hz2 v (bytesV l).length (bytesV l) hs hown ⟨s.toArray⟩ hx ?_ ?_ hB ?_
  · rw [hl, hsz]; unfold maxLen; omega
  · rw [hl, hsz]; exact hlen
  · intro v' w' h1 h2 _
    refine hK v' w' ?_ (grown_below h2 hB (fun k hk => (hown.lt k hk).1))
    rw [hcs, hsz] at h1
    have e : bytesV (l ++ s) = bytesV l ++ bytesV s := by simp [bytesV]
    rw [e]
    show w'.ownsRow B E 1 v' (bytesV l ++ bytesV s).length (bytesV l ++ bytesV s)
    have e2 : (bytesV l ++ bytesV s).length = (bytesV l).length + s.length := by simp
    rw [e2]
    exact h1

theorem stringsJoin (bk o c : Nat) (ls : List (List UInt8)) (sep : List UInt8) (w : World) (hcells : ∀ (j : Nat) l, ls[j]? = some l → w.cell? ⟨bk, o + j, none⟩ = some (.string ⟨l.toArray⟩)) (hbk : bk < w.heap.size) (hN : ls.length ≤ 1073741824) (hcap : ls.length ≤ c) (hlen : Lib.lens ls + ls.length * sep.length ≤ 70368744177664) :
    Calls Tryd.prog 41 #[.slice (some ⟨bk, o, none⟩) ls.length c, .string ⟨sep.toArray⟩] w fun e w' => RetS w (Lib.join ls sep) e w' := by
  have e : (ls.map fun l => (⟨l.toArray⟩ : ByteArray)).map (·.data.toList) = ls := by
    rw [List.map_map]
    conv => rhs; rw [← List.map_id ls]
    apply List.map_congr_left
    intro l _
    simp
  have h := Tryd.strings_Join bk o c (ls.map fun l => ⟨l.toArray⟩) ⟨sep.toArray⟩ w (fun j x hx => by
    rw [List.getElem?_map] at hx
    cases hj : ls[j]? with
    | none => rw [hj] at hx; cases hx
    | some l =>
      rw [hj] at hx
      cases hx
      exact hcells j l hj) hbk (by rw [List.length_map]; omega) (by rw [List.length_map]; exact hcap) (by
    rw [e]
    have := join_len ls sep
    have e3 : (⟨sep.toArray⟩ : ByteArray).data.toList = sep := by simp
    rw [e3]
    omega)
  rw [e, List.length_map] at h
  have e3 : (⟨sep.toArray⟩ : ByteArray).data.toList = sep := by simp
  rw [e3] at h
  exact h

theorem stringsJoinV (v : Value) (ls : List (List UInt8)) (sep : List UInt8) (w : World) (h : StrsAt w w.heap.size v ls) (hl : ls.length ≤ 1073741824) (hlen : Lib.lens ls + ls.length * sep.length ≤ 70368744177664) :
    Calls Tryd.prog 41 #[v, .string ⟨sep.toArray⟩] w fun e w' => RetS w (Lib.join ls sep) e w' := by
  obtain ⟨A, c, rfl, hc, he⟩ := formS_ h
  by_cases h0 : 0 < ls.length
  · obtain ⟨b, o, x, rfl, hb, _, _⟩ := he 0 h0
    refine stringsJoin b o c ls sep w (fun j l hj => ?_) hb hl hc hlen
    have hj2 := (List.getElem?_eq_some_iff.1 hj).1
    obtain ⟨b', o', x', e1, _, e2, e3⟩ := he j hj2
    cases e1
    rw [hj] at e2
    cases e2
    exact e3
  · have hn : ls = [] := List.eq_nil_of_length_eq_zero (by omega)
    subst hn
    exact (Tryd.strings_Join_none A c ⟨sep.toArray⟩ w).mono fun _ _ ⟨h1, h2⟩ => ⟨h1, h2 ▸ Below.refl _ _⟩
theorem joinS (v : Value) (ls : List (List UInt8)) (sep : List UInt8) (w : World) (h : StrsAt w w.heap.size v ls) (hl : ls.length ≤ 1073741824) (hlen : Lib.lens ls + ls.length * sep.length ≤ 70368744177664) :
    Calls Tryd.prog 38 #[v, .string ⟨sep.toArray⟩] w fun e w' => RetS w (Lib.join ls sep) e w' := by
  obtain ⟨A, c, rfl, hc, he⟩ := formS_ h
  have He := hide he
  have Hlen := hide hlen
  clear h he hlen hc
  go_enter Tryd.func38, Tryd.ntmps38
  go_wp2
  have Ho0 : Hid (OwnV 5 (w.alloc (.cells #[] 5)) w.heap.size (.slice (some ⟨w.heap.size, 0, none⟩) 0 0) (bytesV (Lib.join (ls.take 0) sep))) := own_empty _ _
  have Hb0 := hide (below_alloc w (.cells #[] 5))
  go_loopw [5, 6] (fun u5 i wr => ∃ k : Nat, k ≤ ls.length ∧ i = .int .i64 k ∧ Hid (OwnV 5 wr w.heap.size u5 (bytesV (Lib.join (ls.take k) sep))) ∧ Hid (Below w.heap.size w wr)) (fun _ i _ => ls.length - (intOf i).toNat)
  case atStart => exact ⟨0, by omega, rfl, Ho0, Hb0⟩
  case round =>
    obtain ⟨k, hk, rfl, hown, hb⟩ := hrel
    by_cases hlt : k < ls.length
    · obtain ⟨b, o, y, rfl, hbb, hy, hcell0⟩ := He.out k hlt
      have hcell := (hb.out.cell (p := ⟨b, o + k, none⟩) hbb).trans hcell0
      have ho := hown.out
      have hsz := hb.out.size
      have hjl := join_take_len ls sep k
      have hjl2 := join_take_len ls sep (k + 1)
      have Hy := hide hy
      clear hcell0 hy
      by_cases h0 : 0 < k
      · have e := join_next sep h0 Hy.out
        have Hj := hide e
        rw [e, List.length_append, List.length_append] at hjl2
        have hl1 : (Lib.join (ls.take k) sep).length + sep.length ≤ 140737488355328 := by have := Hlen.out; omega
        have hl2 : (Lib.join (ls.take k) sep ++ sep).length + y.length ≤ 140737488355328 := by have := Hlen.out; rw [List.length_append]; omega
        clear e hjl hjl2
        go_wp2_with (first | (at_builtin; refine wpList_appT ho sep Tryd.underlying33 Tryd.underlying9 infoB rfl _ _ rfl rfl rfl hl1 hsz ?_; intro v5 w5 ho5 hb5; have hsz5 := (hb.out.trans hb5).size; have hcell5 := (hb5.cell (p := ⟨b, o + k, none⟩) hbb).trans hcell) | (at_builtin; refine wpList_appT ho5 y Tryd.underlying33 Tryd.underlying9 infoB rfl _ _ rfl rfl rfl hl2 hsz5 ?_; intro v6 w6 ho6 hb6))
        have Ho6 : Hid (OwnV 5 w6 w.heap.size v6 (bytesV (Lib.join (ls.take (k + 1)) sep))) := by show OwnV _ _ _ _ _; rw [Hj.out]; exact ho6
        have Hb6 : Hid (Below w.heap.size w w6) := (hb.out.trans hb5).trans hb6
        clear ho5 ho6 hb5 hb6 hcell5
        go_roundw
        case rel => exact ⟨k + 1, by omega, by go_num, Ho6, Hb6⟩
        case measure => simp [intOf]; omega
      · obtain rfl : k = 0 := by omega
        rw [Nat.add_zero] at hcell
        have e := join_first sep Hy.out
        have Hj := hide e
        rw [e] at hjl2
        have ho0 : OwnV 5 wr w.heap.size _ (bytesV []) := ho
        have hl2 : ([] : List UInt8).length + y.length ≤ 140737488355328 := by have := Hlen.out; show 0 + y.length ≤ _; omega
        clear e hjl hjl2 ho
        go_wp2_with (at_builtin; refine wpList_appT ho0 y Tryd.underlying33 Tryd.underlying9 infoB rfl _ _ rfl rfl rfl hl2 hsz ?_; intro v6 w6 ho6 hb6)
        have Ho6 : Hid (OwnV 5 w6 w.heap.size v6 (bytesV (Lib.join (ls.take (0 + 1)) sep))) := by show OwnV _ _ _ _ _; rw [Hj.out]; exact ho6
        have Hb6 : Hid (Below w.heap.size w w6) := hb.out.trans hb6
        clear ho6 hb6
        go_roundw
        case rel => exact ⟨0 + 1, by omega, by go_num, Ho6, Hb6⟩
        case measure => simp [intOf]; omega
    · have hk2 : ls.length ≤ k := by omega
      have Ht := hide (take_all ls k hk2)
      have hcv := own_str (P := Tryd.prog) (src := 33) (dst := 9) Tryd.underlying33 Tryd.underlying5 Tryd.underlying9 hown.out
      go_wp2
      go_ret
      exact ⟨ret_str (by rw [Ht.out]), hb.out⟩
end Go.Proofs.YtmkacjpjcfffmaaDoor
