/- The law FnProofSumIs holds for all that it draws. -/
import Derived.Lib.SplitLaws
import Derived.Lib.AtoiAll
import Derived.Test.YtinjblbfaijhdaaDoorCFnProofSumIs3
import Derived.Test.YtinjblbfaijhdaaDoorCFnProofSumIs9
import Derived.Test.YtinjblbfaijhdaaDoorCFnProofSumIs10
import Derived.Test.YtinjblbfaijhdaaDoorCFnProofSumIs13
import Derived.Test.YtinjblbfaijhdaaDoorCFnProofSumIs15
namespace Go.Proofs.YtinjblbfaijhdaaDoor.Q
open Go.RowKit Go.Proofs.YtinjblbfaijhdaaDoorW.PrintWords Go.Proofs.YtinjblbfaijhdaaDoorW.PrintLast Go.Proofs.YtinjblbfaijhdaaDoorW.PrintMore
attribute [local go_sem] max2_int min2_int max_two min_two max_three min_three max_four min_four   -- for this text's walks alone
set_option linter.unusedVariables false
set_option linter.unusedSimpArgs false
/-- The cells of the library's variables that are read: bytealg.MaxLen, strconv.ErrSyntax, strconv.ErrRange. -/
def Cells3 (w : World) : Prop := (∃ m : Int, w.cell? ⟨2, 0, none⟩ = some (.int .i64 m)) ∧ (∃ ev : Value, w.cell? ⟨0, 0, none⟩ = some ev ∧ (ev = .nilIface ∨ ∃ te pe, ev = .iface te pe)) ∧ ∃ ev : Value, w.cell? ⟨1, 0, none⟩ = some ev ∧ (ev = .nilIface ∨ ∃ te pe, ev = .iface te pe)
def GlobN (w : World) : Prop := Glob w ∧ Cells3 w
theorem GlobN.below {w w' : World} (h : GlobN w) (hb : Below w.heap.size w w') : GlobN w' := by
 obtain ⟨h0, ⟨m, h1⟩, ⟨e1, h2, h3⟩, ⟨e2, h4, h5⟩⟩ := h
 exact ⟨h0.below hb, ⟨m, pw_cell_below hb h1⟩, ⟨e1, pw_cell_below hb h2, h3⟩, ⟨e2, pw_cell_below hb h4, h5⟩⟩
def impl_numbersOf.sp : ByteArray := ⟨#[32]⟩
/-- The pieces between spaces. -/
def impl_numbersOf.parts (s : ByteArray) : List ByteArray := Lib.splitB impl_numbersOf.sp 0 (Lib.countB s impl_numbersOf.sp) s
theorem impl_numbersOf.parts_length (s : ByteArray) : (impl_numbersOf.parts s).length = Lib.countB s impl_numbersOf.sp + 1 := Lib.splitB_all impl_numbersOf.sp (by decide) 0 _ s rfl
/-- A number from 0 to 99999 whose decimal signs the piece is. -/
def impl_numbersOf.num (s : ByteArray) : Option Int :=
 match Lib.atoiAll s.data.toList with
 | .ok v => if 0 ≤ v ∧ v ≤ 99999 then if (⟨(Lib.itoa v).toArray⟩ : ByteArray) = s then some v else none else none
 | _ => none
/-- The numbers of pieces, if all are. -/
def impl_numbersOf.nums : List ByteArray → Option (List Int)
 | [] => some []
 | s :: l => (impl_numbersOf.num s).bind fun v => (impl_numbersOf.nums l).bind fun r => some (v :: r)
theorem impl_numbersOf.nums_snoc (l : List ByteArray) (s : ByteArray) : impl_numbersOf.nums (l ++ [s]) = (impl_numbersOf.nums l).bind fun r => (impl_numbersOf.num s).bind fun v => some (r ++ [v]) := by
 induction l with
 | nil => simp [impl_numbersOf.nums]
 | cons a l ih =>
  simp only [List.cons_append, impl_numbersOf.nums, ih]
  cases impl_numbersOf.num a <;> cases impl_numbersOf.nums l <;> cases impl_numbersOf.num s <;> rfl
theorem impl_numbersOf.nums_bad (l : List ByteArray) (k : Nat) (h : k < l.length) (hk : impl_numbersOf.num (l.getD k ByteArray.empty) = none) : impl_numbersOf.nums l = none := by
 induction l generalizing k with
 | nil => simp at h
 | cons a l ih =>
  cases k with
  | zero =>
   have : impl_numbersOf.num a = none := by simpa using hk
   simp [impl_numbersOf.nums, this]
  | succ k =>
   have := ih k (by simpa using h) (by simpa using hk)
   simp only [impl_numbersOf.nums, this]
   cases impl_numbersOf.num a <;> rfl
theorem impl_numbersOf.take (l : List ByteArray) (k : Nat) (h : k < l.length) : l.take (k + 1) = l.take k ++ [l.getD k ByteArray.empty] := by
 rw [List.take_succ_eq_append_getElem h]; simp [List.getD, List.getElem?_eq_getElem h]
def impl_numbersOf.f (a0 : ByteArray) (a1 : ByteArray) : Option (List Int × Bool) :=
 if a0.size < 4294967281 then
  match impl_numbersOf.nums (impl_numbersOf.parts a0).tail with
  | some l => some (l, decide ((impl_numbersOf.parts a0).headD ByteArray.empty = a1))
  | none => some ([], false)
 else none
/-- strconv.Atoi at a piece that spells an int. -/
theorem impl_numbersOf.atoi_ok (s : ByteArray) (hs : s.size ≤ 281474976710656) (v : Int) (h : Lib.atoiAll s.data.toList = .ok v) (w : World) :
  Calls Tryd.prog 73 #[.string s] w fun e w' => e = .returned (.tuple #[.int .i64 v, .nilIface]) ∧ Below w.heap.size w w' := by
 refine (Tryd.strconv_Atoi_ok s (by omega) v h w).mono ?_
 rintro e w' ⟨rfl, hw⟩
 refine ⟨rfl, ?_⟩
 rcases hw with rfl | ⟨t, rfl⟩
 ·exact Below.refl _ _
 ·exact ⟨rfl, rfl, rfl, by have := Lib.bytesWorld_size w 5 t; omega, fun j hj => Lib.bytesWorld_at_old w 5 t j hj⟩
/-- strconv.Atoi at another piece. -/
theorem impl_numbersOf.atoi_bad (s : ByteArray) (hs : s.size ≤ 281474976710656) (h : ∀ v, Lib.atoiAll s.data.toList ≠ .ok v) (w : World) (hG : GlobN w) :
  Calls Tryd.prog 73 #[.string s] w fun e w' => ∃ (v : Int) (te : TypeId) (p : Value), e = .returned (.tuple #[.int .i64 v, .iface te p]) ∧ Below w.heap.size w w' := by
 obtain ⟨_, _, ⟨e1, h2, h3⟩, ⟨e2, h4, h5⟩⟩ := hG
 cases k : Lib.atoiAll s.data.toList with
 | ok v => exact absurd k (h v)
 | «syntax» =>
  refine (Tryd.strconv_Atoi_syntax s hs k e1 w h2 h3).mono ?_
  rintro e w' ⟨N, rfl, _, _, hb⟩
  exact ⟨_, _, _, rfl, hb⟩
 | range =>
  refine (Tryd.strconv_Atoi_range s hs k e2 w h4 h5).mono ?_
  rintro e w' ⟨N, rfl, _, _, hb⟩
  exact ⟨_, _, _, rfl, hb⟩
theorem impl_numbersOf.in_eq (v : Int) : impl_in.f v 0 99999 = some (decide (0 ≤ v ∧ v ≤ 99999)) := by
 unfold impl_in.f
 by_cases c1 : 0 ≤ v
 ·by_cases c2 : v ≤ 99999 <;> simp [c1, c2]
 ·simp [c1]
theorem impl_numbersOf.beq (a b : ByteArray) : (a.toList == b.toList) = decide (a = b) := by
 rw [Bool.eq_iff_iff, beq_iff_eq, decide_eq_true_iff, Lib.toList_data, Lib.toList_data]
 constructor
 ·intro h; cases a; cases b; simp only at h; congr; exact Array.toList_inj.1 h
 ·rintro rfl; rfl
theorem impl_numbersOf.part_size (s : ByteArray) (x : ByteArray) (h : x ∈ impl_numbersOf.parts s) : x.size ≤ s.size := by
 suffices all : ∀ (k : Nat) (s : ByteArray), ∀ x ∈ Lib.splitB impl_numbersOf.sp 0 k s, x.size ≤ s.size from all _ s x h
 intro k
 induction k with
 | zero =>
  intro s x hx
  simp only [Lib.splitB, List.mem_singleton] at hx
  rw [hx]; exact Nat.le_refl _
 | succ k ih =>
  intro s x hx
  unfold Lib.splitB at hx
  split at hx
  ·simp only [List.mem_singleton] at hx
   rw [hx]; exact Nat.le_refl _
  ·rcases List.mem_cons.1 hx with e | e
   ·rw [e, ByteArray.size_extract]; omega
   ·have := ih _ x e
    rw [ByteArray.size_extract] at this
    omega
def impl_numbersOf.T11 : Bool × List (List Nat × List Nat) := (true, [([], []), ([], []), ([1], [1]), ([2], [2]), ([], []), ([3, 4], [3, 4]), ([0, 0], [0]), ([5, 6, 0, 1, 2, 3, 4, 5, 6], [5])])
def impl_numbersOf.B11 : List Nat := [0, 0, 2, 6, 0, 30, 1, 127]
theorem impl_numbersOf.tab11 : rtab .any (opsOf Tryd.f48 11) = impl_numbersOf.T11 := by kernel_rfl
theorem impl_numbersOf.bits11 : waitsOk impl_numbersOf.T11.2 impl_numbersOf.B11 = true := by kernel_rfl
set_option maxHeartbeats 2000000 in
set_option maxRecDepth 100000 in
theorem impl_numbersOf.calls (a0 : ByteArray) (a1 : ByteArray) (r1 : List Int) (r2 : Bool) (w : World) (h : impl_numbersOf.f a0 a1 = some (r1, r2)) (hG : GlobN w) :
  Calls Tryd.prog 48 #[.string a0, .string a1] w fun e w' => ∃ v0_ : Value, e = .returned (.tuple #[v0_, .bool r2]) ∧ Kd.R (Kd.int .i64) 3 w' w.heap.size (fun _ => True) v0_ r1 ∧ Below w.heap.size w w' := by
 unfold impl_numbersOf.f at h
 split at h
 case isFalse => cases h
 rename_i hs
 have H := Lib.hid h
 clear h
 obtain ⟨m, hm⟩ := hG.2.1
 have C := Tryd.strings_Split a0 impl_numbersOf.sp m w hs hm (by decide)
 have hL := impl_numbersOf.parts_length a0
 rw [show (Lib.splitB impl_numbersOf.sp 0 (Lib.countB a0 impl_numbersOf.sp) a0) = impl_numbersOf.parts a0 from rfl] at C
 have hN : Lib.countB a0 impl_numbersOf.sp ≤ a0.size := Lib.countB_le impl_numbersOf.sp (by decide) a0.size a0 (Nat.le_refl _)
 generalize Lib.countB a0 impl_numbersOf.sp = N at C hL hN
 generalize hP : impl_numbersOf.parts a0 = L at C hL H
 have HL := Lib.hid hL
 have HS : Aside0 (∀ y ∈ L, y.size ≤ a0.size) := ⟨fun y hy => impl_numbersOf.part_size a0 y (by rw [hP]; exact hy)⟩
 obtain ⟨x, hx⟩ : ∃ x, x = L.getD 0 ByteArray.empty := ⟨_, rfl⟩
 have HC : Aside0 (∀ j, j < N + 1 → (w.alloc (.cells (L.map Value.string).toArray 9)).cell? ⟨w.heap.size, j, none⟩ = some (.string (L.getD j ByteArray.empty))) := ⟨fun j hj => by
  have h1 : (w.alloc (.cells (L.map Value.string).toArray 9)).heap[w.heap.size]? = some (.cells (L.map Value.string).toArray 9 (0, 0)) := blk_new w (.cells (L.map Value.string).toArray 9)
  refine (blk_cell h1 j).trans ?_
  have hj2 : j < L.length := by omega
  simp [List.getD, hj2]⟩
 have HB0 : Aside0 (Below w.heap.size w (w.alloc (.cells (L.map Value.string).toArray 9))) := ⟨(Below.refl _ w).alloc (Nat.le_refl _) _⟩
 have G0 : Aside0 (w.heap.size ≤ (w.alloc (.cells (L.map Value.string).toArray 9)).heap.size) := ⟨HB0.out.size⟩
 have G1 : Aside0 (w.heap.size < (w.alloc (.cells (L.map Value.string).toArray 9)).heap.size) := ⟨by simp⟩
 generalize w.alloc (.cells (L.map Value.string).toArray 9) = w1 at *
 have HG := Lib.hid (hG.below HB0.out)
 have hc0 := HC.out 0 (by omega)
 rw [← hx] at hc0
 clear hL hP
 go_enter Tryd.func48, Tryd.ntmps48
 go_wp2_with (go_at_call 72; refine C.mono ?_; rintro e w' ⟨rfl, hw⟩; obtain rfl : w1 = w' := hw.symm)
 clear C
 ·-- one piece: no number
  obtain rfl : N = 0 := by assumption
  have H2 : r1 = [] ∧ r2 = decide (x = a1) := by
   have hl := HL.out
   have HX := H.out
   match L, hl with
   | [x], _ =>
    simp only [List.tail_cons, impl_numbersOf.nums, Option.some.injEq, Prod.mk.injEq, List.headD_cons] at HX
    exact ⟨HX.1.symm, by rw [← HX.2, hx]; rfl⟩
  obtain ⟨rfl, rfl⟩ := H2
  go_loopw [7, 17] (fun v7 v17 w' => v7 = .slice none 0 0 ∧ v17 = .int .i64 0 ∧ w' = w1) (fun _ _ _ => 0)
  case atStart => exact ⟨rfl, rfl, rfl⟩
  case round =>
   obtain ⟨rfl, rfl, rfl⟩ := hrel
   go_wp2
   have HB9 := Aside0.mk (below_drew HB0.out)
   refine start_ (n := 8) (S := fun w' => w'.cell? ⟨w.heap.size, 0, none⟩ = some (.string x)) (ds := []) #[false, false, false, false, false, false, false, false] (by kernel_rfl) rfl rfl hc0 (fun hHeld => ?_); refine with_tabW impl_numbersOf.tab11 impl_numbersOf.bits11 (fun HT_ HW_ => ?_)
   generalize wr.drew = W9 at HB9 hHeld ⊢
   refine pure_ (i := 0) (N := some 44) (v := ?_) (a' := ?_) #[true, false, false, false, false, false, false, false] rfl rfl (any_of HT_.out (by kernel_rfl)) (fun _ _ _ h => h) (Or.inl ⟨by rfl, ?_⟩) ?_ ?_
   rotate_left
   ·intro w'
    go_simp
    with_reducible rfl
   rotate_left
   ·simp only [Act.put, List.setIfInBounds_toArray, List.set_cons_zero, List.set_cons_succ, i64_w, i32_w]
    rfl
   refine pure_ (i := 1) (N := some 45) (v := ?_) (a' := ?_) #[true, true, false, false, false, false, false, false] rfl rfl (any_of HT_.out (by kernel_rfl)) (fun _ _ _ h => h) (Or.inl ⟨by rfl, ?_⟩) ?_ ?_
   rotate_left
   ·intro w'
    go_simp
    with_reducible rfl
   rotate_left
   ·simp only [Act.put, List.setIfInBounds_toArray, List.set_cons_zero, List.set_cons_succ, i64_w, i32_w]
    rfl
   refine pure_ (i := 2) (N := some 46) (v := ?_) (a' := ?_) #[true, true, true, false, false, false, false, false] rfl rfl (any_of HT_.out (by kernel_rfl)) (fun _ _ _ h => h) (Or.inl ⟨by rfl, ?_⟩) ?_ ?_
   rotate_left
   ·intro w'
    go_simp
    with_reducible rfl
   rotate_left
   ·simp only [Act.put, List.setIfInBounds_toArray, List.set_cons_zero, List.set_cons_succ, i64_w, i32_w]
    rfl
   refine take_ (i := 3) (N := some 47) (v := ?_) (a' := ?_) #[true, true, true, true, false, false, false, false] rfl rfl (take_ofW HT_.out HW_.out (by kernel_rfl)) (fun _ _ _ h => h) (Or.inl ⟨by rfl, ?_⟩) hHeld ?_ ?_
   rotate_left
   ·rintro w' s0
    go_simp
    with_reducible rfl
   rotate_left
   ·simp only [Act.put, List.setIfInBounds_toArray, List.set_cons_zero, List.set_cons_succ, i64_w, i32_w]
    rfl
   refine pure_ (i := 4) (N := some 48) (v := ?_) (a' := ?_) #[true, true, true, true, true, false, false, false] rfl rfl (any_of HT_.out (by kernel_rfl)) (fun _ _ _ h => h) (Or.inl ⟨by rfl, ?_⟩) ?_ ?_
   rotate_left
   ·intro w'
    go_simp
    with_reducible rfl
   rotate_left
   ·simp only [Act.put, List.setIfInBounds_toArray, List.set_cons_zero, List.set_cons_succ, i64_w, i32_w]
    rfl
   refine pure_ (i := 5) (N := some 49) (v := ?_) (a' := ?_) #[true, true, true, true, true, true, false, false] rfl rfl (any_of HT_.out (by kernel_rfl)) (fun _ _ _ h => h) (Or.inl ⟨by rfl, ?_⟩) ?_ ?_
   rotate_left
   ·intro w'
    go_simp
    with_reducible rfl
   rotate_left
   ·simp only [Act.put, List.setIfInBounds_toArray, List.set_cons_zero, List.set_cons_succ, i64_w, i32_w]
    rfl
   refine pure_ (i := 6) (N := some 4) (v := ?_) (a' := ?_) #[true, true, true, true, true, true, true, false] rfl rfl (any_of HT_.out (by kernel_rfl)) (fun _ _ _ h => h) (Or.inl ⟨by rfl, ?_⟩) ?_ ?_
   rotate_left
   ·intro w'
    go_simp
    with_reducible rfl
   rotate_left
   ·simp only [Act.put, List.setIfInBounds_toArray, List.set_cons_zero, List.set_cons_succ, i64_w, i32_w]
    rfl
   refine pure_ (i := 7) (N := some 5) (v := ?_) (a' := ?_) #[true, true, true, true, true, true, true, true] rfl rfl (any_of HT_.out (by kernel_rfl)) (fun _ _ _ h => h) (Or.inl ⟨by rfl, ?_⟩) ?_ ?_
   rotate_left
   ·intro w'
    go_simp
    with_reducible rfl
   rotate_left
   ·simp only [Act.put, List.setIfInBounds_toArray, List.set_cons_zero, List.set_cons_succ, i64_w, i32_w]
    rfl
   refine done_ (done_of HT_.out (by kernel_rfl)) ?_
   try go_wp2
   have hd : ((L[0]?.getD ByteArray.empty).toList == a1.toList) = decide (x = a1) := by
    rw [impl_numbersOf.beq, hx]; rfl
   rw [hd]
   go_ret2
   exact ⟨_, rfl, Kd.R_nil _ _ _ _ _, HB9.out⟩
 ·-- several pieces
  have hN0 : N ≠ 0 := by assumption
  have hT : L.tail.length = N := by rw [List.length_tail, HL.out]; omega
  have HT := Lib.hid hT
  clear hT
  go_loopw [7, 17] (fun v7 v17 w' => ∃ (k : Nat) (acc : List Int), k ≤ N ∧ v17 = .int .i64 k ∧ acc.length ≤ k ∧ Aside0 (impl_numbersOf.nums (L.tail.take k) = some acc) ∧ Aside0 (Kd.R (Kd.int .i64) 3 w' w1.heap.size (fun _ => True) v7 acc) ∧ Aside0 (Below w1.heap.size w1 w')) (fun _ v17 _ => N - (intOf v17).toNat)
  case atStart => exact ⟨0, [], Nat.zero_le _, rfl, Nat.le_refl _, ⟨rfl⟩, ⟨Kd.R_nil _ _ _ _ _⟩, ⟨Below.refl _ _⟩⟩
  case round =>
   obtain ⟨k, acc, hk, rfl, hacc, HO, HR, HB⟩ := hrel
   by_cases hlt : k < N
   ·have hcell : wr.cell? ⟨w.heap.size, 1 + k, none⟩ = some (.string (L.getD (k + 1) ByteArray.empty)) := by
     have := HC.out (k + 1) (by omega)
     rw [show (⟨w.heap.size, k + 1, none⟩ : Addr) = ⟨w.heap.size, 1 + k, none⟩ by rw [Nat.add_comm]] at this
     exact (HB.out.cell (p := ⟨w.heap.size, 1 + k, none⟩) (by have := G1.out; simp; omega)).trans this
    have hsz : (L.getD (k + 1) ByteArray.empty).size ≤ 281474976710656 := by
     have hm : L.getD (k + 1) ByteArray.empty ∈ L := by
      have : k + 1 < L.length := by have := HL.out; omega
      simp only [List.getD, List.getElem?_eq_getElem this, Option.getD_some]
      exact List.getElem_mem this
     have := HS.out _ hm
     omega
    have hget : L.tail.getD k ByteArray.empty = L.getD (k + 1) ByteArray.empty := by simp [List.getD]
    have htk := impl_numbersOf.take L.tail k (by rw [HT.out]; exact hlt)
    rw [hget] at htk
    have hbad : impl_numbersOf.num (L.getD (k + 1) ByteArray.empty) = none → r1 = [] ∧ r2 = false := by
     intro hn
     have hX := impl_numbersOf.nums_bad L.tail k (by rw [HT.out]; exact hlt) (by rw [hget]; exact hn)
     have h2 := H.out
     rw [hX] at h2
     simp only [Option.some.injEq, Prod.mk.injEq] at h2
     exact ⟨h2.1.symm, h2.2.symm⟩
    have HBAD := Lib.hid hbad
    have HTK := Lib.hid htk
    clear hget htk hbad
    generalize L.getD (k + 1) ByteArray.empty = s at hcell hsz HBAD HTK
    have HG2 := Aside0.mk (HG.out.below HB.out)
    have HW := Aside0.mk (below_then HB0.out G0.out HB.out)
    by_cases hv : ∃ v, Lib.atoiAll s.data.toList = .ok v
    ·obtain ⟨v, hv⟩ := hv
     have C1 := Aside0.mk (impl_numbersOf.atoi_ok s hsz v hv wr)
     have hb := Lib.atoiAll_bounds hv
     by_cases hr : 0 ≤ v ∧ v ≤ 99999
     ·have C2 := Aside0.mk (fun W => impl_in.calls v 0 99999 true W (by rw [impl_numbersOf.in_eq, decide_eq_true hr]))
      have hI : strconv_Itoa_68.f v = some ⟨(Lib.itoa v).toArray⟩ := by
       unfold strconv_Itoa_68.f
       rw [if_pos (by omega)]
      have hnum : impl_numbersOf.num s = if (⟨(Lib.itoa v).toArray⟩ : ByteArray) = s then some v else none := by
       unfold impl_numbersOf.num
       rw [hv]
       simp only [if_pos hr]
      generalize (⟨(Lib.itoa v).toArray⟩ : ByteArray) = z at hI hnum
      have hbq := impl_numbersOf.beq z s
      by_cases he : z = s
      ·rw [if_pos he] at hnum
       rw [decide_eq_true he] at hbq
       have hne : (z.toList != s.toList) = false := by unfold bne; rw [hbq]; rfl
       have HN := Lib.hid (show impl_numbersOf.nums (L.tail.take (k + 1)) = some (acc ++ [v]) by rw [HTK.out, impl_numbersOf.nums_snoc, HO.out, hnum]; rfl)
       clear he hnum HBAD hb
       go_wp2_with (first | (go_at_call 73; refine C1.out.mono ?_; rintro e w2 ⟨rfl, hb2⟩; have HR2 := Aside0.mk (Kd.R_below HR.out hb2); have HB2 := Aside0.mk (below_step HB.out hb2); have HW2 := Aside0.mk (below_step HW.out hb2); have HG3 := Aside0.mk (HG2.out.below hb2); clear hb2) | (go_at_call 41; refine (C2.out _).mono ?_; rintro e w3 ⟨rfl, hd3⟩; have hb3 := Drawn0.below hd3; have HR3 := Aside0.mk (Kd.R_below HR2.out hb3); have HB3 := Aside0.mk (below_step HB2.out hb3); have HW3 := Aside0.mk (below_step HW2.out hb3); have HG4 := Aside0.mk (HG3.out.below hb3); clear hb3 hd3) | (go_at_call 68; refine (strconv_Itoa_68.calls v _ _ hI HG4.out.1).mono ?_; rintro e w4 ⟨rfl, hb4⟩; have HR4 := Aside0.mk (Kd.R_below HR3.out hb4); have HB4 := Aside0.mk (below_step HB3.out hb4); have HW4 := Aside0.mk (below_step HW3.out hb4); clear hb4) | ((with_reducible refine gate_builtin (b := .append) (xs := #[.tmp 39, .tmp 41]) rfl ?_); at_builtin; refine Kd.R_append (Kd.int .i64) (w0 := w1) w1.heap.size rfl (.tmp 39) (.tmp 41) 32 3 (.int .i64 0) 8 rfl Tryd.underlying32 info3 rfl (by decide) (by omega) u7 acc v [.int .i64 v] (fun _ => True) (fun _ => False) rfl rfl ?aP (fun _ hk => hk.elim) ?aF ?aO ?aB ?aS ?aL ?_; (case aP => exact rfl); (case aB => exact HB4.out); (case aF => exact (fun _ _ => trivial)); (case aO => exact HR4.out); (case aS => exact HB4.out.size); (case aL => omega); intro v105 w10 ho hb hg hat; have HB5 := Aside0.mk hb; have HR5 := Aside0.mk ho; clear ho hb hg hat))
       exact ⟨⟨k + 1, acc ++ [v], by omega, by go_num, by simp; omega, ⟨HN.out⟩, HR5, HB5⟩, by simp [intOf]; omega⟩
      ·rw [if_neg he] at hnum
       rw [decide_eq_false he] at hbq
       have hne : (z.toList != s.toList) = true := by unfold bne; rw [hbq]; rfl
       obtain ⟨rfl, rfl⟩ := HBAD.out hnum
       clear he hnum HBAD hb
       go_wp2_with (first | (go_at_call 73; refine C1.out.mono ?_; rintro e w2 ⟨rfl, hb2⟩; have HR2 := Aside0.mk (Kd.R_below HR.out hb2); have HB2 := Aside0.mk (below_step HB.out hb2); have HW2 := Aside0.mk (below_step HW.out hb2); have HG3 := Aside0.mk (HG2.out.below hb2); clear hb2) | (go_at_call 41; refine (C2.out _).mono ?_; rintro e w3 ⟨rfl, hd3⟩; have hb3 := Drawn0.below hd3; have HR3 := Aside0.mk (Kd.R_below HR2.out hb3); have HB3 := Aside0.mk (below_step HB2.out hb3); have HW3 := Aside0.mk (below_step HW2.out hb3); have HG4 := Aside0.mk (HG3.out.below hb3); clear hb3 hd3) | (go_at_call 68; refine (strconv_Itoa_68.calls v _ _ hI HG4.out.1).mono ?_; rintro e w4 ⟨rfl, hb4⟩; have HR4 := Aside0.mk (Kd.R_below HR3.out hb4); have HB4 := Aside0.mk (below_step HB3.out hb4); have HW4 := Aside0.mk (below_step HW3.out hb4); clear hb4))
       go_ret2
       exact ⟨_, rfl, Kd.R_nil _ _ _ _ _, HW4.out⟩
     ·have C2 := Aside0.mk (fun W => impl_in.calls v 0 99999 false W (by rw [impl_numbersOf.in_eq, decide_eq_false hr]))
      have hnum : impl_numbersOf.num s = none := by
       unfold impl_numbersOf.num
       rw [hv]
       simp only [if_neg hr]
      obtain ⟨rfl, rfl⟩ := HBAD.out hnum
      clear hnum HBAD hb
      go_wp2_with (first | (go_at_call 73; refine C1.out.mono ?_; rintro e w2 ⟨rfl, hb2⟩; have HR2 := Aside0.mk (Kd.R_below HR.out hb2); have HB2 := Aside0.mk (below_step HB.out hb2); have HW2 := Aside0.mk (below_step HW.out hb2); have HG3 := Aside0.mk (HG2.out.below hb2); clear hb2) | (go_at_call 41; refine (C2.out _).mono ?_; rintro e w3 ⟨rfl, hd3⟩; have hb3 := Drawn0.below hd3; have HR3 := Aside0.mk (Kd.R_below HR2.out hb3); have HB3 := Aside0.mk (below_step HB2.out hb3); have HW3 := Aside0.mk (below_step HW2.out hb3); have HG4 := Aside0.mk (HG3.out.below hb3); clear hb3 hd3))
      go_ret2
      exact ⟨_, rfl, Kd.R_nil _ _ _ _ _, HW3.out⟩
    ·have C1 := Aside0.mk (impl_numbersOf.atoi_bad s hsz (fun v h => hv ⟨v, h⟩) wr HG2.out)
     have hn : impl_numbersOf.num s = none := by
      unfold impl_numbersOf.num
      split
      ·rename_i v h; exact absurd ⟨v, h⟩ hv
      ·rfl
     obtain ⟨rfl, rfl⟩ := HBAD.out hn
     clear hn hv HBAD
     go_wp2_with (go_at_call 73; refine C1.out.mono ?_; rintro e w2 ⟨v, te, p, rfl, hb2⟩; have HW2 := Aside0.mk (below_step HW.out hb2); clear hb2)
     go_ret2
     exact ⟨_, rfl, Kd.R_nil _ _ _ _ _, HW2.out⟩
   ·obtain rfl : k = N := by omega
    have h2 := H.out
    have hO := HO.out
    rw [List.take_of_length_le (by rw [HT.out]; exact Nat.le_refl _)] at hO
    rw [hO] at h2
    simp only [Option.some.injEq, Prod.mk.injEq] at h2
    have hh : L.headD ByteArray.empty = x := by
     rw [hx]
     cases L with
     | nil => rfl
     | cons a l => rfl
    rw [hh] at h2
    obtain ⟨rfl, rfl⟩ := h2
    clear hO HO H
    have hc1 : wr.cell? ⟨w.heap.size, 0, none⟩ = some (.string x) := (HB.out.cell (p := ⟨w.heap.size, 0, none⟩) (by have := G1.out; simpa using this)).trans hc0
    have HW := Aside0.mk (below_then HB0.out G0.out HB.out)
    go_wp2
    clear hc0
    have hc0 := hc1
    have HB9 := Aside0.mk (below_drew HW.out)
    have HR9 := Aside0.mk (Kd.R_drew HR.out)
    refine start_ (n := 8) (S := fun w' => w'.cell? ⟨w.heap.size, 0, none⟩ = some (.string x)) (ds := []) #[false, false, false, false, false, false, false, false] (by kernel_rfl) rfl rfl hc0 (fun hHeld => ?_); refine with_tabW impl_numbersOf.tab11 impl_numbersOf.bits11 (fun HT_ HW_ => ?_)
    generalize wr.drew = W9 at HB9 HR9 hHeld ⊢
    refine pure_ (i := 0) (N := some 44) (v := ?_) (a' := ?_) #[true, false, false, false, false, false, false, false] rfl rfl (any_of HT_.out (by kernel_rfl)) (fun _ _ _ h => h) (Or.inl ⟨by rfl, ?_⟩) ?_ ?_
    rotate_left
    ·intro w'
     go_simp
     with_reducible rfl
    rotate_left
    ·simp only [Act.put, List.setIfInBounds_toArray, List.set_cons_zero, List.set_cons_succ, i64_w, i32_w]
     rfl
    refine pure_ (i := 1) (N := some 45) (v := ?_) (a' := ?_) #[true, true, false, false, false, false, false, false] rfl rfl (any_of HT_.out (by kernel_rfl)) (fun _ _ _ h => h) (Or.inl ⟨by rfl, ?_⟩) ?_ ?_
    rotate_left
    ·intro w'
     go_simp
     with_reducible rfl
    rotate_left
    ·simp only [Act.put, List.setIfInBounds_toArray, List.set_cons_zero, List.set_cons_succ, i64_w, i32_w]
     rfl
    refine pure_ (i := 2) (N := some 46) (v := ?_) (a' := ?_) #[true, true, true, false, false, false, false, false] rfl rfl (any_of HT_.out (by kernel_rfl)) (fun _ _ _ h => h) (Or.inl ⟨by rfl, ?_⟩) ?_ ?_
    rotate_left
    ·intro w'
     go_simp
     with_reducible rfl
    rotate_left
    ·simp only [Act.put, List.setIfInBounds_toArray, List.set_cons_zero, List.set_cons_succ, i64_w, i32_w]
     rfl
    refine take_ (i := 3) (N := some 47) (v := ?_) (a' := ?_) #[true, true, true, true, false, false, false, false] rfl rfl (take_ofW HT_.out HW_.out (by kernel_rfl)) (fun _ _ _ h => h) (Or.inl ⟨by rfl, ?_⟩) hHeld ?_ ?_
    rotate_left
    ·rintro w' s0
     go_simp
     with_reducible rfl
    rotate_left
    ·simp only [Act.put, List.setIfInBounds_toArray, List.set_cons_zero, List.set_cons_succ, i64_w, i32_w]
     rfl
    refine pure_ (i := 4) (N := some 48) (v := ?_) (a' := ?_) #[true, true, true, true, true, false, false, false] rfl rfl (any_of HT_.out (by kernel_rfl)) (fun _ _ _ h => h) (Or.inl ⟨by rfl, ?_⟩) ?_ ?_
    rotate_left
    ·intro w'
     go_simp
     with_reducible rfl
    rotate_left
    ·simp only [Act.put, List.setIfInBounds_toArray, List.set_cons_zero, List.set_cons_succ, i64_w, i32_w]
     rfl
    refine pure_ (i := 5) (N := some 49) (v := ?_) (a' := ?_) #[true, true, true, true, true, true, false, false] rfl rfl (any_of HT_.out (by kernel_rfl)) (fun _ _ _ h => h) (Or.inl ⟨by rfl, ?_⟩) ?_ ?_
    rotate_left
    ·intro w'
     go_simp
     with_reducible rfl
    rotate_left
    ·simp only [Act.put, List.setIfInBounds_toArray, List.set_cons_zero, List.set_cons_succ, i64_w, i32_w]
     rfl
    refine pure_ (i := 6) (N := some 4) (v := ?_) (a' := ?_) #[true, true, true, true, true, true, true, false] rfl rfl (any_of HT_.out (by kernel_rfl)) (fun _ _ _ h => h) (Or.inl ⟨by rfl, ?_⟩) ?_ ?_
    rotate_left
    ·intro w'
     go_simp
     with_reducible rfl
    rotate_left
    ·simp only [Act.put, List.setIfInBounds_toArray, List.set_cons_zero, List.set_cons_succ, i64_w, i32_w]
     rfl
    refine pure_ (i := 7) (N := some 5) (v := ?_) (a' := ?_) #[true, true, true, true, true, true, true, true] rfl rfl (any_of HT_.out (by kernel_rfl)) (fun _ _ _ h => h) (Or.inl ⟨by rfl, ?_⟩) ?_ ?_
    rotate_left
    ·intro w'
     go_simp
     with_reducible rfl
    rotate_left
    ·simp only [Act.put, List.setIfInBounds_toArray, List.set_cons_zero, List.set_cons_succ, i64_w, i32_w]
     rfl
    refine done_ (done_of HT_.out (by kernel_rfl)) ?_
    try go_wp2
    have hd : ((L[0]?.getD ByteArray.empty).toList == a1.toList) = decide (x = a1) := by
     rw [impl_numbersOf.beq, hx]; rfl
    rw [hd]
    go_ret2
    exact ⟨_, rfl, Kd.R_lower HR9.out G0.out, HB9.out⟩

def slices_ContainsFunc_int_int.f (k : Nat) (l0 : List Int) (p_ : Int → Option Bool) : Option Bool := (slices_IndexFunc_int_int.f k l0 p_).bind fun i => some (decide (i ≥ 0))
theorem slices_ContainsFunc_int_int.mono (p_ q_ : Int → Option Bool) (hp_ : ∀ n, LeO (p_ n) (q_ n)) : ∀ a0 k, LeO (slices_ContainsFunc_int_int.f k a0 p_) (slices_ContainsFunc_int_int.f (k + 1) a0 q_) := fun a0 k => LeO.bind (slices_IndexFunc_int_int.mono p_ q_ hp_ a0 k) (fun _ => LeO.refl _)
set_option maxHeartbeats 1000000 in
set_option maxRecDepth 100000 in
theorem slices_ContainsFunc_int_int.calls (k : Nat) (A0 : Option Addr) (c0 : Nat) (l0 : List Int) (p_ : Int → Option Bool) (g_ : Nat) (lb_ : Array Value) (r : Bool) (w : World) (hr0 : Kd.C (Kd.int .i64) w A0 l0.length l0) (hc0 : l0.length ≤ c0) (eg_ : ∀ args w, (callFunc g_ args).run Tryd.prog w = .ok (.enter g_ args) w) (hp_ : ∀ (n : Int) (b : Bool) (W : World), Below w.heap.size w W → p_ n = some b → Calls Tryd.prog g_ (#[.int .i64 n] ++ lb_) W fun e W' => e = .returned (.bool b) ∧ Below W.heap.size W W') (h : slices_ContainsFunc_int_int.f k l0 p_ = some r) :
  Calls Tryd.prog 50 #[.slice A0 l0.length c0, .func (.func g_) #[] lb_] w fun e w' => e = .returned (.bool r) ∧ Below w.heap.size w w' := by
 unfold slices_ContainsFunc_int_int.f at h
 obtain ⟨i, hi, h⟩ := Option.bind_eq_some_iff.mp h
 obtain rfl := Option.some.inj h
 have C := slices_IndexFunc_int_int.calls k A0 c0 l0 p_ g_ lb_ i w hr0 hc0 eg_ hp_ hi
 clear h hi hr0 hc0 eg_ hp_
 go_enter Tryd.func50, Tryd.ntmps50
 go_wp2_with (go_at_call 74; refine C.mono ?_; rintro e w' ⟨rfl, hb⟩)
 go_ret
 exact ⟨by simp, hb⟩
def impl_ProofRestIs.wrong (c n : Int) : Option Bool := some (Int.tmod n c != 0)
/-- What the function answers; the divisor is at least 2 where it is divided by. -/
def impl_ProofRestIs.f (k : Nat) (a0 : ByteArray) (a1 : Int) (a2 : ByteArray) : Option Bool :=
 (impl_small.f k a0).bind fun b => (impl_numbersOf.f a2 (⟨#[114, 101, 115, 116]⟩ : ByteArray)).bind fun q =>
  if b.2.2 = true then (if q.2 = true then (impl_in.f a1 1 1000).bind fun t => (if t = true then (if q.1.length = 1 then (if rd q.1 0 < 2 then some false else
   (impl_set_below.f k b.1 b.2.1 (wrap64 ((b.1.length : Int) + wrap64 (2 * (b.2.1.length : Int))))).bind fun l => (slices_ContainsFunc_int_int.f k l (impl_ProofRestIs.wrong (rd q.1 0))).bind fun o => some (!o && (Int.tmod a1 (rd q.1 0) != 0)))
   else some false) else some false) else some false) else some false
theorem impl_ProofRestIs.mono : ∀ a0 a1 a2 k, LeO (impl_ProofRestIs.f k a0 a1 a2) (impl_ProofRestIs.f (k + 1) a0 a1 a2) := by
 intro a0 a1 a2 k
 unfold impl_ProofRestIs.f
 repeat' first | (with_reducible exact impl_small.mono _ _) | (with_reducible exact impl_set_below.mono _ _ _ _) | (with_reducible exact slices_ContainsFunc_int_int.mono _ _ (fun _ => LeO.refl _) _ _) | (with_reducible exact LeO.refl _) | (with_reducible refine LeO.ite ?_ ?_) | (with_reducible refine LeO.bind ?_ (fun _ => ?_))
set_option maxHeartbeats 1000000 in
set_option maxRecDepth 100000 in
theorem impl_ProofRestIs.lit (B : Nat) (A0 : Option Addr) (c0 : Nat) (l0 : List Int) (n : Int) (W : World) (h1 : W.heap[B]? = some (.cells #[.slice A0 l0.length c0] 32 (0, 0))) (r0 : Kd.C (Kd.int .i64) W A0 l0.length l0) (hl : l0.length = 1) (hc : 2 ≤ rd l0 0) :
  Calls Tryd.prog 49 #[.int .i64 n, .pointer (some ⟨B, 0, none⟩)] W fun e W' => e = .returned (.bool (Int.tmod n (rd l0 0) != 0)) ∧ Below W.heap.size W W' := by
 have c10 : W.cell? ⟨B, 0, none⟩ = some (.slice A0 l0.length c0) := (blk_cell h1 0).trans rfl
 obtain ⟨ad, cs, rfl, _, hk, hcell⟩ := Kd.C_get r0 (0 : Int) 0 (Int.le_refl _) (by omega)
 have hx : W.cell? ad = some (.int .i64 (rd l0 0)) := by
  have hk' : cs = [Value.int .i64 (l0.getD (Int.toNat 0) 0)] := hk
  have := hcell 0 (.int .i64 (l0.getD (Int.toNat 0) 0)) (by rw [hk']; rfl)
  rw [show (Int.toNat 0 * (Kd.int IntKind.i64).sz + 0) = 0 from rfl, show ad.add 0 = ad by simp [Addr.add]] at this
  exact this
 have hlen : ((l0.length : Nat) : Int) = 1 := by omega
 rw [hl] at c10
 generalize rd l0 0 = c at hx hc ⊢
 have hc0 : c ≠ 0 := by omega
 clear h1 hk hcell r0
 go_enter Tryd.func49, Tryd.ntmps49
 go_wp2
 go_ret
 exact ⟨rfl, Below.refl _ _⟩
theorem impl_ProofRestIs.set2 {w : World} {g T : Nat} {u v u' v' : Value} (h : w.heap[g]? = some (.cells #[u, v] T (0, 0))) : ((w.setCell ⟨g, 0, none⟩ u').setCell ⟨g, 1, none⟩ v').heap[g]? = some (.cells #[u', v'] T (0, 0)) := blk_set (blk_set h 0 u') 1 v'
theorem impl_ProofRestIs.elem {W : World} {ad : Addr} {l0 : List Int} {cs : List Value} (hk : (Kd.int IntKind.i64).K W (l0.getD (Int.toNat 0) 0) cs) (hcell : ∀ (j : Nat) (u : Value), cs[j]? = some u → W.cell? (ad.add (Int.toNat 0 * (Kd.int IntKind.i64).sz + j)) = some u) : W.cell? ad = some (.int .i64 (rd l0 0)) := by
 have hk' : cs = [Value.int .i64 (l0.getD (Int.toNat 0) 0)] := hk
 have := hcell 0 (.int .i64 (l0.getD (Int.toNat 0) 0)) (by rw [hk']; rfl)
 rw [show (Int.toNat 0 * (Kd.int IntKind.i64).sz + 0) = 0 from rfl, show ad.add 0 = ad by simp [Addr.add]] at this
 exact this
theorem impl_ProofRestIs.set1 {w : World} {g T : Nat} {u u' : Value} (h : w.heap[g]? = some (.cells #[u] T (0, 0))) : (w.setCell ⟨g, 0, none⟩ u').heap[g]? = some (.cells #[u'] T (0, 0)) := blk_set h 0 u'
set_option maxHeartbeats 4000000 in
set_option maxRecDepth 100000 in
theorem impl_ProofRestIs.calls (k : Nat) (a0 : ByteArray) (a1 : Int) (a2 : ByteArray) (r : Bool) (w : World) (h : impl_ProofRestIs.f k a0 a1 a2 = some r) (hG : GlobN w) :
  Calls Tryd.prog 18 #[.string a0, .int .i64 a1, .string a2] w fun e w' => e = .returned (.bool r) ∧ Below w.heap.size w w' := by
 have hmf : ∀ (fn : Fn) (first cap : Array Value) (w : World), (Instr.makeFunc fn first cap).run Tryd.prog w = .ok (.func fn first cap) w := fun _ _ _ _ => rfl
 unfold impl_ProofRestIs.f at h
 obtain ⟨⟨t0, r0, o0⟩, hs, h⟩ := Option.bind_eq_some_iff.mp h
 obtain ⟨⟨l0, b0⟩, hu, h⟩ := Option.bind_eq_some_iff.mp h
 have HB := Aside0.mk (Below.refl w.heap.size w)
 cases o0 with
 | false =>
  simp only [Bool.false_eq_true, if_false, Option.some.injEq] at h
  subst h
  have HS := Aside0.mk hs; have HU := Aside0.mk hu
  clear hs hu
  cases b0 with
  | false =>
   go_enter Tryd.func18, Tryd.ntmps18
   go_wp2_with (first | ((with_reducible refine gate_callee (f := 40) rfl ?_); refine goesL_ (some 14) rfl rfl Tryd.func40 (by kernel_rfl) rfl #[.string a0] rfl (by (try simp only [List.map_toArray, List.map_cons, List.map_nil]); rfl) ?_; refine (impl_small.calls k a0 t0 r0 false _ HS.out).mono ?_; rintro e w0 ⟨v0, v1, rfl, ho0, ho1, hb⟩; refine ⟨_, rfl, ?_⟩; obtain ⟨A0, c0, rfl, q0, k0⟩ := Kd.R_reads ho0; obtain ⟨A1, c1, rfl, q1, k1⟩ := Kd.R_reads ho1; replace HB := Aside0.mk (below_step HB.out hb); have K0 := Aside0.mk k0; have K1 := Aside0.mk k1; (try clear hb)) | ((with_reducible refine gate_dst (N := 7) rfl ?_); refine box_event ?hg (N := 7) ?hd (cs := #[.slice none 0 0, .slice none 0 0]) (t := 49) ?hr ?_; (case hd => rfl); (case hg => rfl); (case hr => first | (go_simp; done)); intro gb0 hg wb0 hbox hb; have cb00_ := blk_cell hbox 0; have fb00_ := blk_frozen hbox 0; have cb01_ := blk_cell hbox 1; have fb01_ := blk_frozen hbox 1; have hbs := ((hb).setCell (p := ⟨gb0, 0, none⟩) (by rw [hg]; exact Nat.le_refl _) (.slice A0 t0.length c0)).setCell (p := ⟨gb0, 1, none⟩) (by rw [hg]; exact Nat.le_refl _) (.slice A1 r0.length c1); replace HB := Aside0.mk (below_step HB.out hbs); replace K0 := Aside0.mk (Kd.C_below K0.out hbs); replace K1 := Aside0.mk (Kd.C_below K1.out hbs); have BA := Aside0.mk (impl_ProofRestIs.set2 (u' := .slice A0 t0.length c0) (v' := .slice A1 r0.length c1) hbox); clear hg hb hbox hbs) | ((with_reducible refine gate_callee (f := 48) rfl ?_); refine goesL_ (some 19) rfl rfl Tryd.func48 (by kernel_rfl) rfl #[.string a2, .string ⟨#[114, 101, 115, 116]⟩] rfl (by (try simp only [List.map_toArray, List.map_cons, List.map_nil]); rfl) ?_; refine (impl_numbersOf.calls a2 (⟨#[114, 101, 115, 116]⟩ : ByteArray) l0 false _ HU.out (GlobN.below hG HB.out)).mono ?_; rintro e w1 ⟨v2, rfl, ho2, hb⟩; refine ⟨_, rfl, ?_⟩; obtain ⟨A2, c2, rfl, q2, k2⟩ := Kd.R_reads ho2; replace HB := Aside0.mk (below_step HB.out hb); replace K0 := Aside0.mk (Kd.C_below K0.out hb); replace K1 := Aside0.mk (Kd.C_below K1.out hb); replace BA := Aside0.mk (blk_below BA.out hb); have K2 := Aside0.mk k2; (try clear hb)) | ((with_reducible refine gate_dst (N := 9) rfl ?_); refine box_event ?hg (N := 9) ?hd (cs := #[.slice none 0 0]) (t := 32) ?hr ?_; (case hd => rfl); (case hg => rfl); (case hr => first | (go_simp; done)); intro gb1 hg wb1 hbox hb; have cb10_ := blk_cell hbox 0; have fb10_ := blk_frozen hbox 0; have hbs := (hb).setCell (p := ⟨gb1, 0, none⟩) (by rw [hg]; exact Nat.le_refl _) (.slice A2 l0.length c2); replace HB := Aside0.mk (below_step HB.out hbs); replace K0 := Aside0.mk (Kd.C_below K0.out hbs); replace K1 := Aside0.mk (Kd.C_below K1.out hbs); replace BA := Aside0.mk (blk_below BA.out hbs); replace K2 := Aside0.mk (Kd.C_below K2.out hbs); have BB := Aside0.mk (impl_ProofRestIs.set1 (u' := .slice A2 l0.length c2) hbox); clear hg hb hbox hbs))
   go_ret
   exact ⟨rfl, HB.out⟩
  | true =>
   go_enter Tryd.func18, Tryd.ntmps18
   go_wp2_with (first | ((with_reducible refine gate_callee (f := 40) rfl ?_); refine goesL_ (some 14) rfl rfl Tryd.func40 (by kernel_rfl) rfl #[.string a0] rfl (by (try simp only [List.map_toArray, List.map_cons, List.map_nil]); rfl) ?_; refine (impl_small.calls k a0 t0 r0 false _ HS.out).mono ?_; rintro e w0 ⟨v0, v1, rfl, ho0, ho1, hb⟩; refine ⟨_, rfl, ?_⟩; obtain ⟨A0, c0, rfl, q0, k0⟩ := Kd.R_reads ho0; obtain ⟨A1, c1, rfl, q1, k1⟩ := Kd.R_reads ho1; replace HB := Aside0.mk (below_step HB.out hb); have K0 := Aside0.mk k0; have K1 := Aside0.mk k1; (try clear hb)) | ((with_reducible refine gate_dst (N := 7) rfl ?_); refine box_event ?hg (N := 7) ?hd (cs := #[.slice none 0 0, .slice none 0 0]) (t := 49) ?hr ?_; (case hd => rfl); (case hg => rfl); (case hr => first | (go_simp; done)); intro gb0 hg wb0 hbox hb; have cb00_ := blk_cell hbox 0; have fb00_ := blk_frozen hbox 0; have cb01_ := blk_cell hbox 1; have fb01_ := blk_frozen hbox 1; have hbs := ((hb).setCell (p := ⟨gb0, 0, none⟩) (by rw [hg]; exact Nat.le_refl _) (.slice A0 t0.length c0)).setCell (p := ⟨gb0, 1, none⟩) (by rw [hg]; exact Nat.le_refl _) (.slice A1 r0.length c1); replace HB := Aside0.mk (below_step HB.out hbs); replace K0 := Aside0.mk (Kd.C_below K0.out hbs); replace K1 := Aside0.mk (Kd.C_below K1.out hbs); have BA := Aside0.mk (impl_ProofRestIs.set2 (u' := .slice A0 t0.length c0) (v' := .slice A1 r0.length c1) hbox); clear hg hb hbox hbs) | ((with_reducible refine gate_callee (f := 48) rfl ?_); refine goesL_ (some 19) rfl rfl Tryd.func48 (by kernel_rfl) rfl #[.string a2, .string ⟨#[114, 101, 115, 116]⟩] rfl (by (try simp only [List.map_toArray, List.map_cons, List.map_nil]); rfl) ?_; refine (impl_numbersOf.calls a2 (⟨#[114, 101, 115, 116]⟩ : ByteArray) l0 true _ HU.out (GlobN.below hG HB.out)).mono ?_; rintro e w1 ⟨v2, rfl, ho2, hb⟩; refine ⟨_, rfl, ?_⟩; obtain ⟨A2, c2, rfl, q2, k2⟩ := Kd.R_reads ho2; replace HB := Aside0.mk (below_step HB.out hb); replace K0 := Aside0.mk (Kd.C_below K0.out hb); replace K1 := Aside0.mk (Kd.C_below K1.out hb); replace BA := Aside0.mk (blk_below BA.out hb); have K2 := Aside0.mk k2; (try clear hb)) | ((with_reducible refine gate_dst (N := 9) rfl ?_); refine box_event ?hg (N := 9) ?hd (cs := #[.slice none 0 0]) (t := 32) ?hr ?_; (case hd => rfl); (case hg => rfl); (case hr => first | (go_simp; done)); intro gb1 hg wb1 hbox hb; have cb10_ := blk_cell hbox 0; have fb10_ := blk_frozen hbox 0; have hbs := (hb).setCell (p := ⟨gb1, 0, none⟩) (by rw [hg]; exact Nat.le_refl _) (.slice A2 l0.length c2); replace HB := Aside0.mk (below_step HB.out hbs); replace K0 := Aside0.mk (Kd.C_below K0.out hbs); replace K1 := Aside0.mk (Kd.C_below K1.out hbs); replace BA := Aside0.mk (blk_below BA.out hbs); replace K2 := Aside0.mk (Kd.C_below K2.out hbs); have BB := Aside0.mk (impl_ProofRestIs.set1 (u' := .slice A2 l0.length c2) hbox); clear hg hb hbox hbs))
   go_ret
   exact ⟨rfl, HB.out⟩
 | true =>
  simp only [if_true] at h
  have HS := Aside0.mk hs; have HU := Aside0.mk hu
  clear hs hu
  cases b0 with
  | false =>
   simp only [Bool.false_eq_true, if_false, Option.some.injEq] at h
   subst h
   go_enter Tryd.func18, Tryd.ntmps18
   go_wp2_with (first | ((with_reducible refine gate_callee (f := 40) rfl ?_); refine goesL_ (some 14) rfl rfl Tryd.func40 (by kernel_rfl) rfl #[.string a0] rfl (by (try simp only [List.map_toArray, List.map_cons, List.map_nil]); rfl) ?_; refine (impl_small.calls k a0 t0 r0 true _ HS.out).mono ?_; rintro e w0 ⟨v0, v1, rfl, ho0, ho1, hb⟩; refine ⟨_, rfl, ?_⟩; obtain ⟨A0, c0, rfl, q0, k0⟩ := Kd.R_reads ho0; obtain ⟨A1, c1, rfl, q1, k1⟩ := Kd.R_reads ho1; replace HB := Aside0.mk (below_step HB.out hb); have K0 := Aside0.mk k0; have K1 := Aside0.mk k1; (try clear hb)) | ((with_reducible refine gate_dst (N := 7) rfl ?_); refine box_event ?hg (N := 7) ?hd (cs := #[.slice none 0 0, .slice none 0 0]) (t := 49) ?hr ?_; (case hd => rfl); (case hg => rfl); (case hr => first | (go_simp; done)); intro gb0 hg wb0 hbox hb; have cb00_ := blk_cell hbox 0; have fb00_ := blk_frozen hbox 0; have cb01_ := blk_cell hbox 1; have fb01_ := blk_frozen hbox 1; have hbs := ((hb).setCell (p := ⟨gb0, 0, none⟩) (by rw [hg]; exact Nat.le_refl _) (.slice A0 t0.length c0)).setCell (p := ⟨gb0, 1, none⟩) (by rw [hg]; exact Nat.le_refl _) (.slice A1 r0.length c1); replace HB := Aside0.mk (below_step HB.out hbs); replace K0 := Aside0.mk (Kd.C_below K0.out hbs); replace K1 := Aside0.mk (Kd.C_below K1.out hbs); have BA := Aside0.mk (impl_ProofRestIs.set2 (u' := .slice A0 t0.length c0) (v' := .slice A1 r0.length c1) hbox); clear hg hb hbox hbs) | ((with_reducible refine gate_callee (f := 48) rfl ?_); refine goesL_ (some 19) rfl rfl Tryd.func48 (by kernel_rfl) rfl #[.string a2, .string ⟨#[114, 101, 115, 116]⟩] rfl (by (try simp only [List.map_toArray, List.map_cons, List.map_nil]); rfl) ?_; refine (impl_numbersOf.calls a2 (⟨#[114, 101, 115, 116]⟩ : ByteArray) l0 false _ HU.out (GlobN.below hG HB.out)).mono ?_; rintro e w1 ⟨v2, rfl, ho2, hb⟩; refine ⟨_, rfl, ?_⟩; obtain ⟨A2, c2, rfl, q2, k2⟩ := Kd.R_reads ho2; replace HB := Aside0.mk (below_step HB.out hb); replace K0 := Aside0.mk (Kd.C_below K0.out hb); replace K1 := Aside0.mk (Kd.C_below K1.out hb); replace BA := Aside0.mk (blk_below BA.out hb); have K2 := Aside0.mk k2; (try clear hb)) | ((with_reducible refine gate_dst (N := 9) rfl ?_); refine box_event ?hg (N := 9) ?hd (cs := #[.slice none 0 0]) (t := 32) ?hr ?_; (case hd => rfl); (case hg => rfl); (case hr => first | (go_simp; done)); intro gb1 hg wb1 hbox hb; have cb10_ := blk_cell hbox 0; have fb10_ := blk_frozen hbox 0; have hbs := (hb).setCell (p := ⟨gb1, 0, none⟩) (by rw [hg]; exact Nat.le_refl _) (.slice A2 l0.length c2); replace HB := Aside0.mk (below_step HB.out hbs); replace K0 := Aside0.mk (Kd.C_below K0.out hbs); replace K1 := Aside0.mk (Kd.C_below K1.out hbs); replace BA := Aside0.mk (blk_below BA.out hbs); replace K2 := Aside0.mk (Kd.C_below K2.out hbs); have BB := Aside0.mk (impl_ProofRestIs.set1 (u' := .slice A2 l0.length c2) hbox); clear hg hb hbox hbs))
   go_ret
   exact ⟨rfl, HB.out⟩
  | true =>
   simp only [if_true] at h
   obtain ⟨i0, hi, h⟩ := Option.bind_eq_some_iff.mp h
   have HI := Aside0.mk hi
   clear hi
   cases i0 with
   | false =>
    simp only [Bool.false_eq_true, if_false, Option.some.injEq] at h
    subst h
    go_enter Tryd.func18, Tryd.ntmps18
    go_wp2_with (first | ((with_reducible refine gate_callee (f := 40) rfl ?_); refine goesL_ (some 14) rfl rfl Tryd.func40 (by kernel_rfl) rfl #[.string a0] rfl (by (try simp only [List.map_toArray, List.map_cons, List.map_nil]); rfl) ?_; refine (impl_small.calls k a0 t0 r0 true _ HS.out).mono ?_; rintro e w0 ⟨v0, v1, rfl, ho0, ho1, hb⟩; refine ⟨_, rfl, ?_⟩; obtain ⟨A0, c0, rfl, q0, k0⟩ := Kd.R_reads ho0; obtain ⟨A1, c1, rfl, q1, k1⟩ := Kd.R_reads ho1; replace HB := Aside0.mk (below_step HB.out hb); have K0 := Aside0.mk k0; have K1 := Aside0.mk k1; (try clear hb)) | ((with_reducible refine gate_dst (N := 7) rfl ?_); refine box_event ?hg (N := 7) ?hd (cs := #[.slice none 0 0, .slice none 0 0]) (t := 49) ?hr ?_; (case hd => rfl); (case hg => rfl); (case hr => first | (go_simp; done)); intro gb0 hg wb0 hbox hb; have cb00_ := blk_cell hbox 0; have fb00_ := blk_frozen hbox 0; have cb01_ := blk_cell hbox 1; have fb01_ := blk_frozen hbox 1; have hbs := ((hb).setCell (p := ⟨gb0, 0, none⟩) (by rw [hg]; exact Nat.le_refl _) (.slice A0 t0.length c0)).setCell (p := ⟨gb0, 1, none⟩) (by rw [hg]; exact Nat.le_refl _) (.slice A1 r0.length c1); replace HB := Aside0.mk (below_step HB.out hbs); replace K0 := Aside0.mk (Kd.C_below K0.out hbs); replace K1 := Aside0.mk (Kd.C_below K1.out hbs); have BA := Aside0.mk (impl_ProofRestIs.set2 (u' := .slice A0 t0.length c0) (v' := .slice A1 r0.length c1) hbox); clear hg hb hbox hbs) | ((with_reducible refine gate_callee (f := 48) rfl ?_); refine goesL_ (some 19) rfl rfl Tryd.func48 (by kernel_rfl) rfl #[.string a2, .string ⟨#[114, 101, 115, 116]⟩] rfl (by (try simp only [List.map_toArray, List.map_cons, List.map_nil]); rfl) ?_; refine (impl_numbersOf.calls a2 (⟨#[114, 101, 115, 116]⟩ : ByteArray) l0 true _ HU.out (GlobN.below hG HB.out)).mono ?_; rintro e w1 ⟨v2, rfl, ho2, hb⟩; refine ⟨_, rfl, ?_⟩; obtain ⟨A2, c2, rfl, q2, k2⟩ := Kd.R_reads ho2; replace HB := Aside0.mk (below_step HB.out hb); replace K0 := Aside0.mk (Kd.C_below K0.out hb); replace K1 := Aside0.mk (Kd.C_below K1.out hb); replace BA := Aside0.mk (blk_below BA.out hb); have K2 := Aside0.mk k2; (try clear hb)) | ((with_reducible refine gate_dst (N := 9) rfl ?_); refine box_event ?hg (N := 9) ?hd (cs := #[.slice none 0 0]) (t := 32) ?hr ?_; (case hd => rfl); (case hg => rfl); (case hr => first | (go_simp; done)); intro gb1 hg wb1 hbox hb; have cb10_ := blk_cell hbox 0; have fb10_ := blk_frozen hbox 0; have hbs := (hb).setCell (p := ⟨gb1, 0, none⟩) (by rw [hg]; exact Nat.le_refl _) (.slice A2 l0.length c2); replace HB := Aside0.mk (below_step HB.out hbs); replace K0 := Aside0.mk (Kd.C_below K0.out hbs); replace K1 := Aside0.mk (Kd.C_below K1.out hbs); replace BA := Aside0.mk (blk_below BA.out hbs); replace K2 := Aside0.mk (Kd.C_below K2.out hbs); have BB := Aside0.mk (impl_ProofRestIs.set1 (u' := .slice A2 l0.length c2) hbox); clear hg hb hbox hbs) | (go_at_call 41; refine (impl_in.calls a1 1 1000 false _ HI.out).mono ?_; rintro e w5 ⟨rfl, hd⟩; have hb := Drawn0.below hd; replace HB := Aside0.mk (below_step HB.out hb); replace K0 := Aside0.mk (Kd.C_below K0.out hb); replace K1 := Aside0.mk (Kd.C_below K1.out hb); replace BA := Aside0.mk (blk_below BA.out hb); replace K2 := Aside0.mk (Kd.C_below K2.out hb); replace BB := Aside0.mk (blk_below BB.out hb); (try clear hb hd)))
    go_ret
    exact ⟨rfl, HB.out⟩
   | true =>
    simp only [if_true] at h
    by_cases hl : l0.length = 1
    ·rw [if_pos hl] at h
     have HLEN := Aside0.mk hl
     have hl2 : (((l0.length : Nat) : Int) != 1) = false := by rw [hl]; rfl
     have hl3 : 0 < l0.length := by omega
     have hl4 : decide ((0 : Int) < ((l0.length : Nat) : Int)) = true := decide_eq_true (by omega)
     clear hl
     by_cases hc : rd l0 0 < 2
     ·rw [if_pos hc] at h
      obtain rfl := Option.some.inj h
      go_enter Tryd.func18, Tryd.ntmps18
      go_wp2_with (first | ((with_reducible refine gate_callee (f := 40) rfl ?_); refine goesL_ (some 14) rfl rfl Tryd.func40 (by kernel_rfl) rfl #[.string a0] rfl (by (try simp only [List.map_toArray, List.map_cons, List.map_nil]); rfl) ?_; refine (impl_small.calls k a0 t0 r0 true _ HS.out).mono ?_; rintro e w0 ⟨v0, v1, rfl, ho0, ho1, hb⟩; refine ⟨_, rfl, ?_⟩; obtain ⟨A0, c0, rfl, q0, k0⟩ := Kd.R_reads ho0; obtain ⟨A1, c1, rfl, q1, k1⟩ := Kd.R_reads ho1; replace HB := Aside0.mk (below_step HB.out hb); have K0 := Aside0.mk k0; have K1 := Aside0.mk k1; (try clear hb)) | ((with_reducible refine gate_dst (N := 7) rfl ?_); refine box_event ?hg (N := 7) ?hd (cs := #[.slice none 0 0, .slice none 0 0]) (t := 49) ?hr ?_; (case hd => rfl); (case hg => rfl); (case hr => first | (go_simp; done)); intro gb0 hg wb0 hbox hb; have cb00_ := blk_cell hbox 0; have fb00_ := blk_frozen hbox 0; have cb01_ := blk_cell hbox 1; have fb01_ := blk_frozen hbox 1; have hbs := ((hb).setCell (p := ⟨gb0, 0, none⟩) (by rw [hg]; exact Nat.le_refl _) (.slice A0 t0.length c0)).setCell (p := ⟨gb0, 1, none⟩) (by rw [hg]; exact Nat.le_refl _) (.slice A1 r0.length c1); replace HB := Aside0.mk (below_step HB.out hbs); replace K0 := Aside0.mk (Kd.C_below K0.out hbs); replace K1 := Aside0.mk (Kd.C_below K1.out hbs); have BA := Aside0.mk (impl_ProofRestIs.set2 (u' := .slice A0 t0.length c0) (v' := .slice A1 r0.length c1) hbox); clear hg hb hbox hbs) | ((with_reducible refine gate_callee (f := 48) rfl ?_); refine goesL_ (some 19) rfl rfl Tryd.func48 (by kernel_rfl) rfl #[.string a2, .string ⟨#[114, 101, 115, 116]⟩] rfl (by (try simp only [List.map_toArray, List.map_cons, List.map_nil]); rfl) ?_; refine (impl_numbersOf.calls a2 (⟨#[114, 101, 115, 116]⟩ : ByteArray) l0 true _ HU.out (GlobN.below hG HB.out)).mono ?_; rintro e w1 ⟨v2, rfl, ho2, hb⟩; refine ⟨_, rfl, ?_⟩; obtain ⟨A2, c2, rfl, q2, k2⟩ := Kd.R_reads ho2; replace HB := Aside0.mk (below_step HB.out hb); replace K0 := Aside0.mk (Kd.C_below K0.out hb); replace K1 := Aside0.mk (Kd.C_below K1.out hb); replace BA := Aside0.mk (blk_below BA.out hb); have K2 := Aside0.mk k2; (try clear hb)) | ((with_reducible refine gate_dst (N := 9) rfl ?_); refine box_event ?hg (N := 9) ?hd (cs := #[.slice none 0 0]) (t := 32) ?hr ?_; (case hd => rfl); (case hg => rfl); (case hr => first | (go_simp; done)); intro gb1 hg wb1 hbox hb; have cb10_ := blk_cell hbox 0; have fb10_ := blk_frozen hbox 0; have hbs := (hb).setCell (p := ⟨gb1, 0, none⟩) (by rw [hg]; exact Nat.le_refl _) (.slice A2 l0.length c2); replace HB := Aside0.mk (below_step HB.out hbs); replace K0 := Aside0.mk (Kd.C_below K0.out hbs); replace K1 := Aside0.mk (Kd.C_below K1.out hbs); replace BA := Aside0.mk (blk_below BA.out hbs); replace K2 := Aside0.mk (Kd.C_below K2.out hbs); have BB := Aside0.mk (impl_ProofRestIs.set1 (u' := .slice A2 l0.length c2) hbox); clear hg hb hbox hbs) | (go_at_call 41; refine (impl_in.calls a1 1 1000 true _ HI.out).mono ?_; rintro e w5 ⟨rfl, hd⟩; have hb := Drawn0.below hd; replace HB := Aside0.mk (below_step HB.out hb); replace K0 := Aside0.mk (Kd.C_below K0.out hb); replace K1 := Aside0.mk (Kd.C_below K1.out hb); replace BA := Aside0.mk (blk_below BA.out hb); replace K2 := Aside0.mk (Kd.C_below K2.out hb); replace BB := Aside0.mk (blk_below BB.out hb); (try clear hb hd); have e9_ : w5.cell? ⟨gb1, 0, none⟩ = some (.slice A2 l0.length c2) := blk_cell BB.out 0; obtain ⟨ad, cs_, e2_, _, hk_, hcell_⟩ := Kd.C_get K2.out (0 : Int) 0 (Int.le_refl _) (by omega); subst e2_; have hx_ := impl_ProofRestIs.elem hk_ hcell_))
      go_ret
      exact ⟨rfl, HB.out⟩
     ·rw [if_neg hc] at h
      have hc2 : 2 ≤ rd l0 0 := by omega
      have hcd : decide (rd l0 0 < 2) = false := decide_eq_false hc
      have hcn : rd l0 0 ≠ 0 := by omega
      obtain ⟨l, hm, h⟩ := Option.bind_eq_some_iff.mp h
      obtain ⟨o, ho, h⟩ := Option.bind_eq_some_iff.mp h
      have HM := Aside0.mk hm; have HO := Aside0.mk ho
      clear hm ho
      cases o with
      | true =>
       simp only [Bool.not_true, Bool.false_and, Option.some.injEq] at h
       subst h
       go_enter Tryd.func18, Tryd.ntmps18
       go_wp2_with (first | ((with_reducible refine gate_callee (f := 40) rfl ?_); refine goesL_ (some 14) rfl rfl Tryd.func40 (by kernel_rfl) rfl #[.string a0] rfl (by (try simp only [List.map_toArray, List.map_cons, List.map_nil]); rfl) ?_; refine (impl_small.calls k a0 t0 r0 true _ HS.out).mono ?_; rintro e w0 ⟨v0, v1, rfl, ho0, ho1, hb⟩; refine ⟨_, rfl, ?_⟩; obtain ⟨A0, c0, rfl, q0, k0⟩ := Kd.R_reads ho0; obtain ⟨A1, c1, rfl, q1, k1⟩ := Kd.R_reads ho1; replace HB := Aside0.mk (below_step HB.out hb); have K0 := Aside0.mk k0; have K1 := Aside0.mk k1; (try clear hb)) | ((with_reducible refine gate_dst (N := 7) rfl ?_); refine box_event ?hg (N := 7) ?hd (cs := #[.slice none 0 0, .slice none 0 0]) (t := 49) ?hr ?_; (case hd => rfl); (case hg => rfl); (case hr => first | (go_simp; done)); intro gb0 hg wb0 hbox hb; have cb00_ := blk_cell hbox 0; have fb00_ := blk_frozen hbox 0; have cb01_ := blk_cell hbox 1; have fb01_ := blk_frozen hbox 1; have hbs := ((hb).setCell (p := ⟨gb0, 0, none⟩) (by rw [hg]; exact Nat.le_refl _) (.slice A0 t0.length c0)).setCell (p := ⟨gb0, 1, none⟩) (by rw [hg]; exact Nat.le_refl _) (.slice A1 r0.length c1); replace HB := Aside0.mk (below_step HB.out hbs); replace K0 := Aside0.mk (Kd.C_below K0.out hbs); replace K1 := Aside0.mk (Kd.C_below K1.out hbs); have BA := Aside0.mk (impl_ProofRestIs.set2 (u' := .slice A0 t0.length c0) (v' := .slice A1 r0.length c1) hbox); clear hg hb hbox hbs) | ((with_reducible refine gate_callee (f := 48) rfl ?_); refine goesL_ (some 19) rfl rfl Tryd.func48 (by kernel_rfl) rfl #[.string a2, .string ⟨#[114, 101, 115, 116]⟩] rfl (by (try simp only [List.map_toArray, List.map_cons, List.map_nil]); rfl) ?_; refine (impl_numbersOf.calls a2 (⟨#[114, 101, 115, 116]⟩ : ByteArray) l0 true _ HU.out (GlobN.below hG HB.out)).mono ?_; rintro e w1 ⟨v2, rfl, ho2, hb⟩; refine ⟨_, rfl, ?_⟩; obtain ⟨A2, c2, rfl, q2, k2⟩ := Kd.R_reads ho2; replace HB := Aside0.mk (below_step HB.out hb); replace K0 := Aside0.mk (Kd.C_below K0.out hb); replace K1 := Aside0.mk (Kd.C_below K1.out hb); replace BA := Aside0.mk (blk_below BA.out hb); have K2 := Aside0.mk k2; (try clear hb)) | ((with_reducible refine gate_dst (N := 9) rfl ?_); refine box_event ?hg (N := 9) ?hd (cs := #[.slice none 0 0]) (t := 32) ?hr ?_; (case hd => rfl); (case hg => rfl); (case hr => first | (go_simp; done)); intro gb1 hg wb1 hbox hb; have cb10_ := blk_cell hbox 0; have fb10_ := blk_frozen hbox 0; have hbs := (hb).setCell (p := ⟨gb1, 0, none⟩) (by rw [hg]; exact Nat.le_refl _) (.slice A2 l0.length c2); replace HB := Aside0.mk (below_step HB.out hbs); replace K0 := Aside0.mk (Kd.C_below K0.out hbs); replace K1 := Aside0.mk (Kd.C_below K1.out hbs); replace BA := Aside0.mk (blk_below BA.out hbs); replace K2 := Aside0.mk (Kd.C_below K2.out hbs); have BB := Aside0.mk (impl_ProofRestIs.set1 (u' := .slice A2 l0.length c2) hbox); clear hg hb hbox hbs) | (go_at_call 41; refine (impl_in.calls a1 1 1000 true _ HI.out).mono ?_; rintro e w5 ⟨rfl, hd⟩; have hb := Drawn0.below hd; replace HB := Aside0.mk (below_step HB.out hb); replace K0 := Aside0.mk (Kd.C_below K0.out hb); replace K1 := Aside0.mk (Kd.C_below K1.out hb); replace BA := Aside0.mk (blk_below BA.out hb); replace K2 := Aside0.mk (Kd.C_below K2.out hb); replace BB := Aside0.mk (blk_below BB.out hb); (try clear hb hd); have e70_ : w5.cell? ⟨gb0, 0, none⟩ = some (.slice A0 t0.length c0) := blk_cell BA.out 0; have e71_ : w5.cell? ⟨gb0, 1, none⟩ = some (.slice A1 r0.length c1) := blk_cell BA.out 1; have e9_ : w5.cell? ⟨gb1, 0, none⟩ = some (.slice A2 l0.length c2) := blk_cell BB.out 0; obtain ⟨ad, cs_, e2_, _, hk_, hcell_⟩ := Kd.C_get K2.out (0 : Int) 0 (Int.le_refl _) (by omega); subst e2_; have hx_ := impl_ProofRestIs.elem hk_ hcell_) | ((with_reducible refine gate_callee (f := 51) rfl ?_); refine goesL_ (some 54) rfl rfl Tryd.func51 (by kernel_rfl) rfl #[.agg #[.slice A0 t0.length c0, .slice A1 r0.length c1], .int .i64 (wrap64 ((t0.length : Int) + wrap64 (2 * (r0.length : Int))))] rfl (by (try simp only [List.map_toArray, List.map_cons, List.map_nil]); rfl) ?_; refine (impl_set_below.calls k A0 c0 t0 A1 c1 r0 (wrap64 ((t0.length : Int) + wrap64 (2 * (r0.length : Int)))) l _ K0.out q0 K1.out q1 HM.out).mono ?_; rintro e w6 ⟨v3, rfl, ho3, hb⟩; refine ⟨_, rfl, ?_⟩; obtain ⟨A3, c3, rfl, q3, k3⟩ := Kd.R_reads ho3; replace HB := Aside0.mk (below_step HB.out hb); replace K0 := Aside0.mk (Kd.C_below K0.out hb); replace K1 := Aside0.mk (Kd.C_below K1.out hb); replace BA := Aside0.mk (blk_below BA.out hb); replace K2 := Aside0.mk (Kd.C_below K2.out hb); replace BB := Aside0.mk (blk_below BB.out hb); have K3 := Aside0.mk k3; (try clear hb)) | ((with_reducible refine gate_callee (f := 50) rfl ?_); refine goesL_ (some 56) rfl rfl Tryd.func50 (by kernel_rfl) rfl #[.slice A3 l.length c3, .func (.func 49) #[] #[.pointer (some ⟨gb1, 0, none⟩)]] rfl (by (try simp only [List.map_toArray, List.map_cons, List.map_nil]); rfl) ?_; refine (slices_ContainsFunc_int_int.calls k A3 c3 l (impl_ProofRestIs.wrong (rd l0 0)) 49 #[.pointer (some ⟨gb1, 0, none⟩)] true _ K3.out q3 (fun args_ w_ => enters_ Tryd.func49 (by kernel_rfl) rfl args_ w_) ?hpx HO.out).mono ?_; (case hpx => intro n_ b_ W_ hW_ hb_; obtain rfl := Option.some.inj hb_; exact impl_ProofRestIs.lit gb1 _ c2 l0 n_ W_ (blk_below BB.out hW_) (Kd.C_below K2.out hW_) HLEN.out (by omega)); rintro e w7 ⟨rfl, hb⟩; refine ⟨_, rfl, ?_⟩; replace HB := Aside0.mk (below_step HB.out hb); replace K0 := Aside0.mk (Kd.C_below K0.out hb); replace K1 := Aside0.mk (Kd.C_below K1.out hb); replace BA := Aside0.mk (blk_below BA.out hb); replace K2 := Aside0.mk (Kd.C_below K2.out hb); replace BB := Aside0.mk (blk_below BB.out hb); replace K3 := Aside0.mk (Kd.C_below K3.out hb); (try clear hb); obtain ⟨ad7, cs7_, e2_, _, hk7_, hcell7_⟩ := Kd.C_get K2.out (0 : Int) 0 (Int.le_refl _) (by omega); obtain rfl := Option.some.inj e2_; have hx7_ := impl_ProofRestIs.elem hk7_ hcell7_; have e97_ : w7.cell? ⟨gb1, 0, none⟩ = some (.slice (some ad) l0.length c2) := blk_cell BB.out 0))
       go_ret
       exact ⟨rfl, HB.out⟩
      | false =>
       simp only [Bool.not_false, Bool.true_and, Option.some.injEq] at h
       subst h
       go_enter Tryd.func18, Tryd.ntmps18
       go_wp2_with (first | ((with_reducible refine gate_callee (f := 40) rfl ?_); refine goesL_ (some 14) rfl rfl Tryd.func40 (by kernel_rfl) rfl #[.string a0] rfl (by (try simp only [List.map_toArray, List.map_cons, List.map_nil]); rfl) ?_; refine (impl_small.calls k a0 t0 r0 true _ HS.out).mono ?_; rintro e w0 ⟨v0, v1, rfl, ho0, ho1, hb⟩; refine ⟨_, rfl, ?_⟩; obtain ⟨A0, c0, rfl, q0, k0⟩ := Kd.R_reads ho0; obtain ⟨A1, c1, rfl, q1, k1⟩ := Kd.R_reads ho1; replace HB := Aside0.mk (below_step HB.out hb); have K0 := Aside0.mk k0; have K1 := Aside0.mk k1; (try clear hb)) | ((with_reducible refine gate_dst (N := 7) rfl ?_); refine box_event ?hg (N := 7) ?hd (cs := #[.slice none 0 0, .slice none 0 0]) (t := 49) ?hr ?_; (case hd => rfl); (case hg => rfl); (case hr => first | (go_simp; done)); intro gb0 hg wb0 hbox hb; have cb00_ := blk_cell hbox 0; have fb00_ := blk_frozen hbox 0; have cb01_ := blk_cell hbox 1; have fb01_ := blk_frozen hbox 1; have hbs := ((hb).setCell (p := ⟨gb0, 0, none⟩) (by rw [hg]; exact Nat.le_refl _) (.slice A0 t0.length c0)).setCell (p := ⟨gb0, 1, none⟩) (by rw [hg]; exact Nat.le_refl _) (.slice A1 r0.length c1); replace HB := Aside0.mk (below_step HB.out hbs); replace K0 := Aside0.mk (Kd.C_below K0.out hbs); replace K1 := Aside0.mk (Kd.C_below K1.out hbs); have BA := Aside0.mk (impl_ProofRestIs.set2 (u' := .slice A0 t0.length c0) (v' := .slice A1 r0.length c1) hbox); clear hg hb hbox hbs) | ((with_reducible refine gate_callee (f := 48) rfl ?_); refine goesL_ (some 19) rfl rfl Tryd.func48 (by kernel_rfl) rfl #[.string a2, .string ⟨#[114, 101, 115, 116]⟩] rfl (by (try simp only [List.map_toArray, List.map_cons, List.map_nil]); rfl) ?_; refine (impl_numbersOf.calls a2 (⟨#[114, 101, 115, 116]⟩ : ByteArray) l0 true _ HU.out (GlobN.below hG HB.out)).mono ?_; rintro e w1 ⟨v2, rfl, ho2, hb⟩; refine ⟨_, rfl, ?_⟩; obtain ⟨A2, c2, rfl, q2, k2⟩ := Kd.R_reads ho2; replace HB := Aside0.mk (below_step HB.out hb); replace K0 := Aside0.mk (Kd.C_below K0.out hb); replace K1 := Aside0.mk (Kd.C_below K1.out hb); replace BA := Aside0.mk (blk_below BA.out hb); have K2 := Aside0.mk k2; (try clear hb)) | ((with_reducible refine gate_dst (N := 9) rfl ?_); refine box_event ?hg (N := 9) ?hd (cs := #[.slice none 0 0]) (t := 32) ?hr ?_; (case hd => rfl); (case hg => rfl); (case hr => first | (go_simp; done)); intro gb1 hg wb1 hbox hb; have cb10_ := blk_cell hbox 0; have fb10_ := blk_frozen hbox 0; have hbs := (hb).setCell (p := ⟨gb1, 0, none⟩) (by rw [hg]; exact Nat.le_refl _) (.slice A2 l0.length c2); replace HB := Aside0.mk (below_step HB.out hbs); replace K0 := Aside0.mk (Kd.C_below K0.out hbs); replace K1 := Aside0.mk (Kd.C_below K1.out hbs); replace BA := Aside0.mk (blk_below BA.out hbs); replace K2 := Aside0.mk (Kd.C_below K2.out hbs); have BB := Aside0.mk (impl_ProofRestIs.set1 (u' := .slice A2 l0.length c2) hbox); clear hg hb hbox hbs) | (go_at_call 41; refine (impl_in.calls a1 1 1000 true _ HI.out).mono ?_; rintro e w5 ⟨rfl, hd⟩; have hb := Drawn0.below hd; replace HB := Aside0.mk (below_step HB.out hb); replace K0 := Aside0.mk (Kd.C_below K0.out hb); replace K1 := Aside0.mk (Kd.C_below K1.out hb); replace BA := Aside0.mk (blk_below BA.out hb); replace K2 := Aside0.mk (Kd.C_below K2.out hb); replace BB := Aside0.mk (blk_below BB.out hb); (try clear hb hd); have e70_ : w5.cell? ⟨gb0, 0, none⟩ = some (.slice A0 t0.length c0) := blk_cell BA.out 0; have e71_ : w5.cell? ⟨gb0, 1, none⟩ = some (.slice A1 r0.length c1) := blk_cell BA.out 1; have e9_ : w5.cell? ⟨gb1, 0, none⟩ = some (.slice A2 l0.length c2) := blk_cell BB.out 0; obtain ⟨ad, cs_, e2_, _, hk_, hcell_⟩ := Kd.C_get K2.out (0 : Int) 0 (Int.le_refl _) (by omega); subst e2_; have hx_ := impl_ProofRestIs.elem hk_ hcell_) | ((with_reducible refine gate_callee (f := 51) rfl ?_); refine goesL_ (some 54) rfl rfl Tryd.func51 (by kernel_rfl) rfl #[.agg #[.slice A0 t0.length c0, .slice A1 r0.length c1], .int .i64 (wrap64 ((t0.length : Int) + wrap64 (2 * (r0.length : Int))))] rfl (by (try simp only [List.map_toArray, List.map_cons, List.map_nil]); rfl) ?_; refine (impl_set_below.calls k A0 c0 t0 A1 c1 r0 (wrap64 ((t0.length : Int) + wrap64 (2 * (r0.length : Int)))) l _ K0.out q0 K1.out q1 HM.out).mono ?_; rintro e w6 ⟨v3, rfl, ho3, hb⟩; refine ⟨_, rfl, ?_⟩; obtain ⟨A3, c3, rfl, q3, k3⟩ := Kd.R_reads ho3; replace HB := Aside0.mk (below_step HB.out hb); replace K0 := Aside0.mk (Kd.C_below K0.out hb); replace K1 := Aside0.mk (Kd.C_below K1.out hb); replace BA := Aside0.mk (blk_below BA.out hb); replace K2 := Aside0.mk (Kd.C_below K2.out hb); replace BB := Aside0.mk (blk_below BB.out hb); have K3 := Aside0.mk k3; (try clear hb)) | ((with_reducible refine gate_callee (f := 50) rfl ?_); refine goesL_ (some 56) rfl rfl Tryd.func50 (by kernel_rfl) rfl #[.slice A3 l.length c3, .func (.func 49) #[] #[.pointer (some ⟨gb1, 0, none⟩)]] rfl (by (try simp only [List.map_toArray, List.map_cons, List.map_nil]); rfl) ?_; refine (slices_ContainsFunc_int_int.calls k A3 c3 l (impl_ProofRestIs.wrong (rd l0 0)) 49 #[.pointer (some ⟨gb1, 0, none⟩)] false _ K3.out q3 (fun args_ w_ => enters_ Tryd.func49 (by kernel_rfl) rfl args_ w_) ?hpx HO.out).mono ?_; (case hpx => intro n_ b_ W_ hW_ hb_; obtain rfl := Option.some.inj hb_; exact impl_ProofRestIs.lit gb1 _ c2 l0 n_ W_ (blk_below BB.out hW_) (Kd.C_below K2.out hW_) HLEN.out (by omega)); rintro e w7 ⟨rfl, hb⟩; refine ⟨_, rfl, ?_⟩; replace HB := Aside0.mk (below_step HB.out hb); replace K0 := Aside0.mk (Kd.C_below K0.out hb); replace K1 := Aside0.mk (Kd.C_below K1.out hb); replace BA := Aside0.mk (blk_below BA.out hb); replace K2 := Aside0.mk (Kd.C_below K2.out hb); replace BB := Aside0.mk (blk_below BB.out hb); replace K3 := Aside0.mk (Kd.C_below K3.out hb); (try clear hb); obtain ⟨ad7, cs7_, e2_, _, hk7_, hcell7_⟩ := Kd.C_get K2.out (0 : Int) 0 (Int.le_refl _) (by omega); obtain rfl := Option.some.inj e2_; have hx7_ := impl_ProofRestIs.elem hk7_ hcell7_; have e97_ : w7.cell? ⟨gb1, 0, none⟩ = some (.slice (some ad) l0.length c2) := blk_cell BB.out 0))
       go_ret
       exact ⟨rfl, HB.out⟩
    ·rw [if_neg hl] at h
     obtain rfl := Option.some.inj h
     have hl' : ¬ ((l0.length : Nat) : Int) = 1 := by omega
     have hl2 : (((l0.length : Nat) : Int) != 1) = true := by simpa using hl'
     go_enter Tryd.func18, Tryd.ntmps18
     go_wp2_with (first | ((with_reducible refine gate_callee (f := 40) rfl ?_); refine goesL_ (some 14) rfl rfl Tryd.func40 (by kernel_rfl) rfl #[.string a0] rfl (by (try simp only [List.map_toArray, List.map_cons, List.map_nil]); rfl) ?_; refine (impl_small.calls k a0 t0 r0 true _ HS.out).mono ?_; rintro e w0 ⟨v0, v1, rfl, ho0, ho1, hb⟩; refine ⟨_, rfl, ?_⟩; obtain ⟨A0, c0, rfl, q0, k0⟩ := Kd.R_reads ho0; obtain ⟨A1, c1, rfl, q1, k1⟩ := Kd.R_reads ho1; replace HB := Aside0.mk (below_step HB.out hb); have K0 := Aside0.mk k0; have K1 := Aside0.mk k1; (try clear hb)) | ((with_reducible refine gate_dst (N := 7) rfl ?_); refine box_event ?hg (N := 7) ?hd (cs := #[.slice none 0 0, .slice none 0 0]) (t := 49) ?hr ?_; (case hd => rfl); (case hg => rfl); (case hr => first | (go_simp; done)); intro gb0 hg wb0 hbox hb; have cb00_ := blk_cell hbox 0; have fb00_ := blk_frozen hbox 0; have cb01_ := blk_cell hbox 1; have fb01_ := blk_frozen hbox 1; have hbs := ((hb).setCell (p := ⟨gb0, 0, none⟩) (by rw [hg]; exact Nat.le_refl _) (.slice A0 t0.length c0)).setCell (p := ⟨gb0, 1, none⟩) (by rw [hg]; exact Nat.le_refl _) (.slice A1 r0.length c1); replace HB := Aside0.mk (below_step HB.out hbs); replace K0 := Aside0.mk (Kd.C_below K0.out hbs); replace K1 := Aside0.mk (Kd.C_below K1.out hbs); have BA := Aside0.mk (impl_ProofRestIs.set2 (u' := .slice A0 t0.length c0) (v' := .slice A1 r0.length c1) hbox); clear hg hb hbox hbs) | ((with_reducible refine gate_callee (f := 48) rfl ?_); refine goesL_ (some 19) rfl rfl Tryd.func48 (by kernel_rfl) rfl #[.string a2, .string ⟨#[114, 101, 115, 116]⟩] rfl (by (try simp only [List.map_toArray, List.map_cons, List.map_nil]); rfl) ?_; refine (impl_numbersOf.calls a2 (⟨#[114, 101, 115, 116]⟩ : ByteArray) l0 true _ HU.out (GlobN.below hG HB.out)).mono ?_; rintro e w1 ⟨v2, rfl, ho2, hb⟩; refine ⟨_, rfl, ?_⟩; obtain ⟨A2, c2, rfl, q2, k2⟩ := Kd.R_reads ho2; replace HB := Aside0.mk (below_step HB.out hb); replace K0 := Aside0.mk (Kd.C_below K0.out hb); replace K1 := Aside0.mk (Kd.C_below K1.out hb); replace BA := Aside0.mk (blk_below BA.out hb); have K2 := Aside0.mk k2; (try clear hb)) | ((with_reducible refine gate_dst (N := 9) rfl ?_); refine box_event ?hg (N := 9) ?hd (cs := #[.slice none 0 0]) (t := 32) ?hr ?_; (case hd => rfl); (case hg => rfl); (case hr => first | (go_simp; done)); intro gb1 hg wb1 hbox hb; have cb10_ := blk_cell hbox 0; have fb10_ := blk_frozen hbox 0; have hbs := (hb).setCell (p := ⟨gb1, 0, none⟩) (by rw [hg]; exact Nat.le_refl _) (.slice A2 l0.length c2); replace HB := Aside0.mk (below_step HB.out hbs); replace K0 := Aside0.mk (Kd.C_below K0.out hbs); replace K1 := Aside0.mk (Kd.C_below K1.out hbs); replace BA := Aside0.mk (blk_below BA.out hbs); replace K2 := Aside0.mk (Kd.C_below K2.out hbs); have BB := Aside0.mk (impl_ProofRestIs.set1 (u' := .slice A2 l0.length c2) hbox); clear hg hb hbox hbs) | (go_at_call 41; refine (impl_in.calls a1 1 1000 true _ HI.out).mono ?_; rintro e w5 ⟨rfl, hd⟩; have hb := Drawn0.below hd; replace HB := Aside0.mk (below_step HB.out hb); replace K0 := Aside0.mk (Kd.C_below K0.out hb); replace K1 := Aside0.mk (Kd.C_below K1.out hb); replace BA := Aside0.mk (blk_below BA.out hb); replace K2 := Aside0.mk (Kd.C_below K2.out hb); replace BB := Aside0.mk (blk_below BB.out hb); (try clear hb hd); have e9_ : w5.cell? ⟨gb1, 0, none⟩ = some (.slice A2 l0.length c2) := blk_cell BB.out 0))
     go_ret
     exact ⟨rfl, HB.out⟩

mutual
def impl_ProofSumIs.j0 : Nat → Int → List Int → Bool → List Bool → List Bool → Option (Bool)
 | 0, _, _, _, _, _ => none
 | k + 1, x1, x9, x29, x650000, x650001 => if x29 = true then (some false) else (impl_ProofSumIs.l0 k x1 0 x9 (x9.length : Int) 0 x650000 x650001)
def impl_ProofSumIs.l0 : Nat → Int → Int → List Int → Int → Int → List Bool → List Bool → Option (Bool)
 | 0, _, _, _, _, _, _, _ => none
 | k + 1, x1, x11, x30, x31, x32, x650000, x650001 => if x32 < x31 then (if 0 ≤ x32 then (if x32 < (x30.length : Int) then (if (rd x30 x32) = 0 then (some false) else ((impl_set_has.f x650000 x650001 (rd x30 x32)).bind fun t655 => (if t655 = true then (impl_ProofSumIs.l0 k x1 (wrap64 (x11 + (rd x30 x32))) x30 x31 (wrap64 (x32 + 1)) x650000 x650001) else (some false)))) else (none)) else (none)) else (some (x11 == x1))
end
def impl_ProofSumIs.f (k : Nat) (a0 : ByteArray) (a1 : Int) (a2 : ByteArray) : Option (Bool) := (impl_small.f k a0).bind fun bt642 => ((impl_numbersOf.f a2 (⟨#[115, 117, 109]⟩ : ByteArray)).bind fun bt650 => (if bt642.2.2 = true then (impl_ProofSumIs.j0 k a1 bt650.1 (!bt650.2) bt642.1 bt642.2.1) else (impl_ProofSumIs.j0 k a1 bt650.1 true bt642.1 bt642.2.1)))
theorem impl_ProofSumIs.mono_l : ∀ k, (∀ y0 y1 y2 y3 y4, LeO (impl_ProofSumIs.j0 k y0 y1 y2 y3 y4) (impl_ProofSumIs.j0 (k + 1) y0 y1 y2 y3 y4)) ∧ (∀ y0 y1 y2 y3 y4 y5 y6, LeO (impl_ProofSumIs.l0 k y0 y1 y2 y3 y4 y5 y6) (impl_ProofSumIs.l0 (k + 1) y0 y1 y2 y3 y4 y5 y6))
 | 0 => ⟨fun _ _ _ _ _ r h => by simp [impl_ProofSumIs.j0] at h, fun _ _ _ _ _ _ _ r h => by simp [impl_ProofSumIs.l0] at h⟩
 | k + 1 => by
  obtain ⟨ih0, ih1⟩ := impl_ProofSumIs.mono_l k
  refine ⟨?_, ?_⟩
  ·intro y0 y1 y2 y3 y4
   unfold impl_ProofSumIs.j0
   repeat' first | (with_reducible exact ih1 _ _ _ _ _ _ _) | (with_reducible exact LeO.refl _) | (with_reducible refine LeO.ite ?_ ?_)
  ·intro y0 y1 y2 y3 y4 y5 y6
   unfold impl_ProofSumIs.l0
   repeat' first | (with_reducible exact ih1 _ _ _ _ _ _ _) | (with_reducible exact LeO.refl _) | (with_reducible refine LeO.ite ?_ ?_) | (with_reducible refine LeO.bind ?_ (fun _ => ?_))
theorem impl_ProofSumIs.mono : ∀ a0 a1 a2 k, LeO (impl_ProofSumIs.f k a0 a1 a2) (impl_ProofSumIs.f (k + 1) a0 a1 a2) := by
 intro a0 a1 a2 k
 obtain ⟨ih0, ih1⟩ := impl_ProofSumIs.mono_l k
 unfold impl_ProofSumIs.f
 repeat' first | (with_reducible exact ih0 _ _ _ _ _) | (with_reducible exact impl_small.mono _ _) | (with_reducible exact LeO.refl _) | (with_reducible refine LeO.ite ?_ ?_) | (with_reducible refine LeO.bind ?_ (fun _ => ?_))
set_option maxHeartbeats 8000000 in
set_option maxRecDepth 100000 in
theorem impl_ProofSumIs.calls (k : Nat) (a0 : ByteArray) (a1 : Int) (a2 : ByteArray) (r : Bool) (w : World) (h : impl_ProofSumIs.f k a0 a1 a2 = some r) (hG : GlobN w) :
  Calls Tryd.prog 26 #[.string a0, .int .i64 a1, .string a2] w fun e w' => e = .returned (.bool r) ∧ Below w.heap.size w w' := by
 have hu49 := Tryd.underlying49
 have HB := Aside0.mk (Below.refl w.heap.size w)
 have H : ((impl_small.f k a0).bind fun bt642 => ((impl_numbersOf.f a2 (⟨#[115, 117, 109]⟩ : ByteArray)).bind fun bt650 => (if bt642.2.2 = true then (impl_ProofSumIs.j0 k a1 bt650.1 (!bt650.2) bt642.1 bt642.2.1) else (impl_ProofSumIs.j0 k a1 bt650.1 true bt642.1 bt642.2.1)))) = some r := h
 clear h
 replace H := Option.bind_eq_some_iff.mp H
 obtain ⟨⟨t642, t645, t648⟩, A40, H⟩ := H
 replace H : ((impl_numbersOf.f a2 (⟨#[115, 117, 109]⟩ : ByteArray)).bind fun bt650 => (if t648 = true then (impl_ProofSumIs.j0 k a1 bt650.1 (!bt650.2) t642 t645) else (impl_ProofSumIs.j0 k a1 bt650.1 true t642 t645))) = some r := H
 have A4 := Aside0.mk A40
 clear A40
 replace H := Option.bind_eq_some_iff.mp H
 obtain ⟨⟨t650, t651⟩, A50, H⟩ := H
 replace H : (if t648 = true then (impl_ProofSumIs.j0 k a1 t650 (!t651) t642 t645) else (impl_ProofSumIs.j0 k a1 t650 true t642 t645)) = some r := H
 have A5 := Aside0.mk A50
 clear A50
 have HC6 := Aside0.mk H
 clear H
 go_enter Tryd.func26, Tryd.ntmps26
 go_upto_region 3 with (first | ((with_reducible refine gate_callee (f := 40) rfl ?_); refine goesL_ (some 16) rfl rfl Tryd.func40 (by kernel_rfl) rfl #[.string a0] rfl (by (try simp only [List.map_toArray, List.map_cons, List.map_nil]); rfl) ?_; (with_reducible refine (impl_small.calls k a0 t642 t645 t648 _ A4.out).mono ?_); rintro e w7 ⟨v643, v646, rfl, ho0, ho1, hb⟩; refine ⟨_, rfl, ?_⟩; have HO644 := Aside0.mk (Kd.R_lower ho0 (below_size HB.out)); have HO647 := Aside0.mk (Kd.R_lower ho1 (below_size HB.out)); replace HB := Aside0.mk (below_step HB.out hb); (try clear hb); (try clear ho0); (try clear ho1)) | ((with_reducible refine gate_dst (N := 7) rfl ?_); refine box_event ?hg (N := 7) ?hd (cs := #[.slice none 0 0, .slice none 0 0]) (t := 49) ?hr ?_; (case hd => rfl); (case hg => rfl); (case hr => first | (go_simp; done)); intro gb649 hg w8 hbox hb; replace HO644 := Aside0.mk (Kd.R_below HO644.out hb); replace HO647 := Aside0.mk (Kd.R_below HO647.out hb); have BK649 := Aside0.mk hbox; have GW649 := Aside0.mk ((by rw [hg]; exact (below_size HB.out) : w.heap.size ≤ gb649)); have GE649 := Aside0.mk ((by rw [hg]; exact (below_size HB.out) : w.heap.size ≤ gb649)); replace HB := Aside0.mk (below_step HB.out hb); clear hb hbox hg; obtain ⟨Ao9, co9, eo9⟩ := Kd.R_slice HO644.out; subst eo9; have hcz10_0 : w8.cell? ⟨gb649, 0, none⟩ = some (.slice none 0 0) := (blk_cell BK649.out 0).trans rfl; have hcz10_1 : w8.cell? ⟨gb649, 1, none⟩ = some (.slice none 0 0) := (blk_cell BK649.out 1).trans rfl; have hfz10_0 := blk_frozen BK649.out 0; have hfz10_1 := blk_frozen BK649.out 1; obtain ⟨Ao11, co11, eo11⟩ := Kd.R_slice HO647.out; subst eo11) | ((with_reducible refine gate_callee (f := 48) rfl ?_); refine goesL_ (some 21) rfl rfl Tryd.func48 (by kernel_rfl) rfl #[.string a2, .string (⟨#[115, 117, 109]⟩ : ByteArray)] rfl (by (try simp only [List.map_toArray, List.map_cons, List.map_nil]); rfl) ?_; (with_reducible refine (impl_numbersOf.calls a2 (⟨#[115, 117, 109]⟩ : ByteArray) t650 t651 _ A5.out (GlobN.below hG (by repeat (first | (with_reducible first | exact HB.out | refine below_set ?_ GE649.out))))).mono ?_); rintro e w12 ⟨v652, rfl, ho0, hb⟩; refine ⟨_, rfl, ?_⟩; replace HO644 := Aside0.mk (Kd.R_below (by exact (Kd.R_mono (Kd.R_far (p := ⟨gb649, 1, none⟩) (Kd.R_far (p := ⟨gb649, 0, none⟩) (Kd.R_types HO644.out BK649.out (by decide)) (fun _ hk => hk.2) (.slice Ao9 t642.length co9)) (fun _ hk => hk.2) (.slice Ao11 t645.length co11)) (fun _ h_ => h_.1))) hb); replace HO647 := Aside0.mk (Kd.R_below (by exact (Kd.R_mono (Kd.R_far (p := ⟨gb649, 1, none⟩) (Kd.R_far (p := ⟨gb649, 0, none⟩) (Kd.R_types HO647.out BK649.out (by decide)) (fun _ hk => hk.2) (.slice Ao9 t642.length co9)) (fun _ hk => hk.2) (.slice Ao11 t645.length co11)) (fun _ h_ => h_.1))) hb); have HO653 := Aside0.mk (Kd.R_lower ho0 (below_size (by repeat (first | (with_reducible first | exact HB.out | refine below_set ?_ GE649.out))))); replace BK649 := Aside0.mk (blk_below (g := gb649) (o := .cells #[.slice Ao9 t642.length co9, .slice Ao11 t645.length co11] 49 (0, 0)) (by refine blk_put (cs := #[.slice Ao9 t642.length co9, .slice none 0 0]) ?_ 1 _ rfl; refine blk_put (cs := #[.slice none 0 0, .slice none 0 0]) ?_ 0 _ rfl; exact BK649.out) hb); replace HB := Aside0.mk (below_step (by repeat (first | (with_reducible first | exact HB.out | refine below_set ?_ GE649.out))) hb); (try clear hb); (try clear ho0)))
 go_cut [29] (fun v29 wc => ∃ (kq : Nat) (x29_5 : Bool), v29 = .bool x29_5 ∧ Aside0 (impl_ProofSumIs.j0 kq a1 t650 x29_5 t642 t645 = some r) ∧ Aside0 (kq ≤ k) ∧ Aside0 (Kd.R (Kd.int .i64) 3 wc w.heap.size (fun _ => True) v652 t650) ∧ Aside0 (Kd.R Kd.bool 4 wc w.heap.size (fun k_ => some k_ ≠ ((.slice Ao11 t645.length co11) : Value).ownBlock) (.slice Ao9 t642.length co9) t642) ∧ Aside0 (Kd.R Kd.bool 4 wc w.heap.size (fun k_ => some k_ ≠ ((.slice Ao9 t642.length co9) : Value).ownBlock) (.slice Ao11 t645.length co11) t645) ∧ Aside0 (wc.heap[gb649]? = some (.cells #[(.slice Ao9 t642.length co9), (.slice Ao11 t645.length co11)] 49 (0, 0))) ∧ Aside0 (Below w.heap.size w wc))
 case first =>
  have H := HC6.out
  clear HC6
  by_cases c13 : t648 = true
  ·subst c13
   replace H : (impl_ProofSumIs.j0 k a1 t650 (!t651) t642 t645) = some r := by rw [if_pos rfl] at H; exact H
   have H' := Aside0.mk H
   clear H
   go_wp2
   go_meet
   case rel => exact ⟨_, (!t651), (by rfl), H', ⟨by omega⟩, ⟨by exact HO653.out⟩, ⟨by exact HO644.out⟩, ⟨by exact HO647.out⟩, ⟨by exact BK649.out⟩, ⟨HB.out⟩⟩
  ·replace c13 := Bool.eq_false_iff.mpr c13
   subst c13
   replace H : (impl_ProofSumIs.j0 k a1 t650 true t642 t645) = some r := by rw [if_neg (show ¬ (false = true) by decide)] at H; exact H
   have H' := Aside0.mk H
   clear H
   go_wp2
   go_meet
   case rel => exact ⟨_, (true), (by rfl), H', ⟨by omega⟩, ⟨by exact HO653.out⟩, ⟨by exact HO644.out⟩, ⟨by exact HO647.out⟩, ⟨by exact BK649.out⟩, ⟨HB.out⟩⟩
 case rest =>
  clear HC6
  try clear hcz10_0
  try clear hcz10_1
  try clear hfz10_0
  try clear hfz10_1
  obtain ⟨kq, x29_5, rfl, HA, HJ5, HO_9, HO_650000, HO_650001, BK649, HB⟩ := hcut
  cases kq with
  | zero => exact absurd HA.out (by simp [impl_ProofSumIs.j0])
  | succ kj5 =>
   have H := HA.out
   clear HA
   simp only [impl_ProofSumIs.j0] at H
   by_cases c14 : x29_5 = true
   ·subst c14
    replace H : (some false) = some r := by rw [if_pos rfl] at H; exact H
    obtain rfl := Option.some.inj H
    go_wp2
    go_ret
    exact ⟨by first | rfl | (simp [*, errW_none, errW_some] <;> rfl), HB.out⟩
   ·replace c14 := Bool.eq_false_iff.mpr c14
    subst c14
    replace H : (impl_ProofSumIs.l0 kj5 a1 0 t650 (t650.length : Int) 0 t642 t645) = some r := by rw [if_neg (show ¬ (false = true) by decide)] at H; exact H
    have H' := Aside0.mk H
    clear H
    obtain ⟨Ao15, co15, eo15⟩ := Kd.R_slice HO_9.out
    subst eo15
    go_wp2
    go_loopg [11, 32] kj5 (fun kq v11 v32 w' => ∃ (x11_2 : Int) (x32_2 : Int), v11 = .int .i64 x11_2 ∧ v32 = .int .i64 x32_2 ∧ Aside0 (impl_ProofSumIs.l0 kq a1 x11_2 t650 (t650.length : Int) x32_2 t642 t645 = some r) ∧ Aside0 (kq ≤ kj5) ∧ Aside0 (Kd.R (Kd.int .i64) 3 w' w.heap.size (fun _ => True) (.slice Ao15 t650.length co15) t650) ∧ Aside0 (Kd.R Kd.bool 4 w' w.heap.size (fun k_ => some k_ ≠ ((.slice Ao11 t645.length co11) : Value).ownBlock) (.slice Ao9 t642.length co9) t642) ∧ Aside0 (Kd.R Kd.bool 4 w' w.heap.size (fun k_ => some k_ ≠ ((.slice Ao9 t642.length co9) : Value).ownBlock) (.slice Ao11 t645.length co11) t645) ∧ Aside0 (w'.heap[gb649]? = some (.cells #[(.slice Ao9 t642.length co9), (.slice Ao11 t645.length co11)] 49 (0, 0))) ∧ Aside0 (Below w.heap.size w w'))
    case atStart => exact ⟨(0), (0), (by rfl), (by rfl), H', ⟨Nat.le_refl _⟩, ⟨by exact HO_9.out⟩, ⟨by exact HO_650000.out⟩, ⟨by exact HO_650001.out⟩, ⟨by exact BK649.out⟩, ⟨HB.out⟩⟩
    case round =>
     clear H'
     obtain ⟨x11_2, x32_2, rfl, rfl, HA, HK2, HO_30, HO_650000, HO_650001, BK649, HB⟩ := hrel
     cases gk with
     | zero => exact absurd HA.out (by simp [impl_ProofSumIs.l0])
     | succ k2 =>
      have H := HA.out
      clear HA
      simp only [impl_ProofSumIs.l0] at H
      by_cases c16 : x32_2 < (t650.length : Int)
      ·rw [if_pos c16] at H
       have c16b0 : decide (x32_2 < (t650.length : Int)) = true := decide_eq_true c16
       clear c16
       by_cases c17 : 0 ≤ x32_2
       ·rw [if_pos c17] at H
        have c17b0 : decide (0 ≤ x32_2) = true := decide_eq_true c17
        clear c17
        by_cases c18 : x32_2 < (t650.length : Int)
        ·rw [if_pos c18] at H
         have c18b0 : decide (x32_2 < (t650.length : Int)) = true := decide_eq_true c18
         clear c18
         by_cases c19 : (rd t650 x32_2) = 0
         ·rw [if_pos c19] at H
          have c19b0 : ((rd t650 x32_2) == 0) = true := beq_iff_eq.mpr c19
          have c19b1 : ((rd t650 x32_2) != 0) = false := bne_eq_false_iff_eq.mpr c19
          clear c19
          obtain rfl := Option.some.inj H
          have p654 : 0 ≤ (x32_2 : Int) := of_decide_eq_true (by (with_reducible assumption))
          have q654 : x32_2 < (t650.length : Int) := of_decide_eq_true (by (with_reducible assumption))
          obtain ⟨ad654, e654, hx654_0⟩ := Kd.at_int (Kd.R_reads' HO_30.out).2.2 x32_2 p654 q654
          cases e654
          replace p654 := eq_true p654
          replace q654 := eq_true q654
          go_wp2
          go_ret
          exact ⟨by first | rfl | (simp [*, errW_none, errW_some] <;> rfl), HB.out⟩
         ·rw [if_neg c19] at H
          have c19b0 : ((rd t650 x32_2) == 0) = false := beq_eq_false_iff_ne.mpr c19
          have c19b1 : ((rd t650 x32_2) != 0) = true := bne_iff_ne.mpr c19
          replace H := Option.bind_eq_some_iff.mp H
          obtain ⟨t655, A200, H⟩ := H
          replace H : (if t655 = true then (impl_ProofSumIs.l0 k2 a1 (wrap64 (x11_2 + (rd t650 x32_2))) t650 (t650.length : Int) (wrap64 (x32_2 + 1)) t642 t645) else (some false)) = some r := H
          have A20 := Aside0.mk A200
          clear A200
          by_cases c21 : t655 = true
          ·subst c21
           replace H : (impl_ProofSumIs.l0 k2 a1 (wrap64 (x11_2 + (rd t650 x32_2))) t650 (t650.length : Int) (wrap64 (x32_2 + 1)) t642 t645) = some r := by rw [if_pos rfl] at H; exact H
           have H' := Aside0.mk H
           clear H
           have p654 : 0 ≤ (x32_2 : Int) := of_decide_eq_true (by (with_reducible assumption))
           have q654 : x32_2 < (t650.length : Int) := of_decide_eq_true (by (with_reducible assumption))
           obtain ⟨ad654, e654, hx654_0⟩ := Kd.at_int (Kd.R_reads' HO_30.out).2.2 x32_2 p654 q654
           cases e654
           replace p654 := eq_true p654
           replace q654 := eq_true q654
           have hcz22_0 : wr.cell? ⟨gb649, 0, none⟩ = some (.slice Ao9 t642.length co9) := (blk_cell BK649.out 0).trans rfl
           have hcz22_1 : wr.cell? ⟨gb649, 1, none⟩ = some (.slice Ao11 t645.length co11) := (blk_cell BK649.out 1).trans rfl
           have hfz22_0 := blk_frozen BK649.out 0
           have hfz22_1 := blk_frozen BK649.out 1
           go_wp2_with (first | (go_at_call 58; (with_reducible refine (impl_set_has.calls _ _ t642 _ _ t645 (rd t650 x32_2) true _ ?side1 ?side2 ?side3 ?side4 A20.out).mono ?_); (case side1 => repeat (exact (Kd.R_reads' HO_650000.out).2.2)); (case side2 => exact (Kd.R_reads' HO_650000.out).2.1); (case side3 => repeat (exact (Kd.R_reads' HO_650001.out).2.2)); (case side4 => exact (Kd.R_reads' HO_650001.out).2.1); rintro e w23 ⟨rfl, hb⟩; replace HO_30 := Aside0.mk (Kd.R_below HO_30.out hb); replace HO_650000 := Aside0.mk (Kd.R_below HO_650000.out hb); replace HO_650001 := Aside0.mk (Kd.R_below HO_650001.out hb); replace BK649 := Aside0.mk (blk_below (g := gb649) (o := .cells #[.slice Ao9 t642.length co9, .slice Ao11 t645.length co11] 49 (0, 0)) BK649.out hb); replace HB := Aside0.mk (below_step HB.out hb); (try clear hb)))
           go_roundg k2
           case measure => have := HJ5.out; have := HK2.out; omega
           case rel => exact ⟨(wrap64 (x11_2 + (rd t650 x32_2))), (wrap64 (x32_2 + 1)), (by rfl), (by rfl), H', ⟨by have := HJ5.out; have := HK2.out; omega⟩, ⟨by exact HO_30.out⟩, ⟨by exact HO_650000.out⟩, ⟨by exact HO_650001.out⟩, ⟨by exact BK649.out⟩, ⟨HB.out⟩⟩
          ·replace c21 := Bool.eq_false_iff.mpr c21
           subst c21
           replace H : (some false) = some r := by rw [if_neg (show ¬ (false = true) by decide)] at H; exact H
           obtain rfl := Option.some.inj H
           have p654 : 0 ≤ (x32_2 : Int) := of_decide_eq_true (by (with_reducible assumption))
           have q654 : x32_2 < (t650.length : Int) := of_decide_eq_true (by (with_reducible assumption))
           obtain ⟨ad654, e654, hx654_0⟩ := Kd.at_int (Kd.R_reads' HO_30.out).2.2 x32_2 p654 q654
           cases e654
           replace p654 := eq_true p654
           replace q654 := eq_true q654
           have hcz24_0 : wr.cell? ⟨gb649, 0, none⟩ = some (.slice Ao9 t642.length co9) := (blk_cell BK649.out 0).trans rfl
           have hcz24_1 : wr.cell? ⟨gb649, 1, none⟩ = some (.slice Ao11 t645.length co11) := (blk_cell BK649.out 1).trans rfl
           have hfz24_0 := blk_frozen BK649.out 0
           have hfz24_1 := blk_frozen BK649.out 1
           go_wp2_with (first | (go_at_call 58; (with_reducible refine (impl_set_has.calls _ _ t642 _ _ t645 (rd t650 x32_2) false _ ?side1 ?side2 ?side3 ?side4 A20.out).mono ?_); (case side1 => repeat (exact (Kd.R_reads' HO_650000.out).2.2)); (case side2 => exact (Kd.R_reads' HO_650000.out).2.1); (case side3 => repeat (exact (Kd.R_reads' HO_650001.out).2.2)); (case side4 => exact (Kd.R_reads' HO_650001.out).2.1); rintro e w25 ⟨rfl, hb⟩; replace HO_30 := Aside0.mk (Kd.R_below HO_30.out hb); replace HO_650000 := Aside0.mk (Kd.R_below HO_650000.out hb); replace HO_650001 := Aside0.mk (Kd.R_below HO_650001.out hb); replace BK649 := Aside0.mk (blk_below (g := gb649) (o := .cells #[.slice Ao9 t642.length co9, .slice Ao11 t645.length co11] 49 (0, 0)) BK649.out hb); replace HB := Aside0.mk (below_step HB.out hb); (try clear hb)))
           go_ret
           exact ⟨by first | rfl | (simp [*, errW_none, errW_some] <;> rfl), HB.out⟩
        ·rw [if_neg c18] at H
         exact absurd H (by simp)
       ·rw [if_neg c17] at H
        exact absurd H (by simp)
      ·rw [if_neg c16] at H
       have c16b0 : decide (x32_2 < (t650.length : Int)) = false := decide_eq_false c16
       clear c16
       obtain rfl := Option.some.inj H
       go_wp2
       go_ret
       exact ⟨by first | rfl | (simp [*, errW_none, errW_some] <;> rfl), HB.out⟩


mutual
def laws_FnProofSumIs.j0 : Nat → ByteArray → Int → Bool → Bool → Option (Bool)
 | 0, _, _, _, _ => none
 | k + 1, x3, x4, x8, x35 => if x35 = true then (some x8) else (laws_FnProofSumIs.l0 k x3 x4 2)
def laws_FnProofSumIs.l0 : Nat → ByteArray → Int → Int → Option (Bool)
 | 0, _, _, _ => none
 | k + 1, x3, x4, x9 => if x9 < 10 then ((some (([(wrap64 (48 + x9)) % 256] : List Int) : List Int)).bind fun y901 => (if 5 + (strOfNums y901).size ≤ 9223372036854775807 then ((impl_ProofRestIs.f k x3 x4 ((⟨#[114, 101, 115, 116, 32]⟩ : ByteArray) ++ (strOfNums y901))).bind fun t904 => (if t904 = true then (some false) else (laws_FnProofSumIs.l0 k x3 x4 (wrap64 (x9 + 1))))) else (none))) else (if x4 > 2000 then (some true) else ((impl_StarHas.f k x3 x4).bind fun t905 => (some t905)))
end
def laws_FnProofSumIs.f (k : Nat) (l0 : List Int) : Option (Bool) := if (l0.length : Int) > 1048576 then (some true) else ((spec_DrawProofSumIs.f k l0).bind fun bt896 => ((impl_ProofSumIs.f k bt896.1 bt896.2.1 bt896.2.2).bind fun t899 => ((spec_ProofSumIs.f k bt896.1 bt896.2.1 bt896.2.2).bind fun t900 => (if ((t899 == t900) = true) then (laws_FnProofSumIs.j0 k bt896.1 bt896.2.1 true (!t899)) else (laws_FnProofSumIs.j0 k bt896.1 bt896.2.1 false true)))))
theorem laws_FnProofSumIs.mono_l : ∀ k, (∀ y0 y1 y2 y3, LeO (laws_FnProofSumIs.j0 k y0 y1 y2 y3) (laws_FnProofSumIs.j0 (k + 1) y0 y1 y2 y3)) ∧ (∀ y0 y1 y2, LeO (laws_FnProofSumIs.l0 k y0 y1 y2) (laws_FnProofSumIs.l0 (k + 1) y0 y1 y2))
 | 0 => ⟨fun _ _ _ _ r h => by simp [laws_FnProofSumIs.j0] at h, fun _ _ _ r h => by simp [laws_FnProofSumIs.l0] at h⟩
 | k + 1 => by
  obtain ⟨ih0, ih1⟩ := laws_FnProofSumIs.mono_l k
  refine ⟨?_, ?_⟩
  ·intro y0 y1 y2 y3
   unfold laws_FnProofSumIs.j0
   repeat' first | (with_reducible exact ih1 _ _ _) | (with_reducible exact LeO.refl _) | (with_reducible refine LeO.ite ?_ ?_)
  ·intro y0 y1 y2
   unfold laws_FnProofSumIs.l0
   repeat' first | (with_reducible exact ih1 _ _ _) | (with_reducible exact impl_ProofRestIs.mono _ _ _ _) | (with_reducible exact impl_StarHas.mono _ _ _) | (with_reducible exact LeO.refl _) | (with_reducible refine LeO.ite ?_ ?_) | (with_reducible refine LeO.bind ?_ (fun _ => ?_))
theorem laws_FnProofSumIs.mono : ∀ a0 k, LeO (laws_FnProofSumIs.f k a0) (laws_FnProofSumIs.f (k + 1) a0) := by
 intro a0 k
 obtain ⟨ih0, ih1⟩ := laws_FnProofSumIs.mono_l k
 unfold laws_FnProofSumIs.f
 repeat' first | (with_reducible exact ih0 _ _ _ _) | (with_reducible exact impl_ProofSumIs.mono _ _ _ _) | (with_reducible exact spec_DrawProofSumIs.mono _ _) | (with_reducible exact spec_ProofSumIs.mono _ _ _ _) | (with_reducible exact LeO.refl _) | (with_reducible refine LeO.ite ?_ ?_) | (with_reducible refine LeO.bind ?_ (fun _ => ?_))
set_option maxHeartbeats 8000000 in
set_option maxRecDepth 100000 in
theorem laws_FnProofSumIs.calls (k : Nat) (A0 : Option Addr) (c0 : Nat) (l0 : List Int) (r : Bool) (w : World) (hr0 : Kd.C (Kd.int .u8) w A0 l0.length l0) (hc0 : l0.length ≤ c0) (h : laws_FnProofSumIs.f k l0 = some r) (hG : GlobN w) :
  Calls Tryd.prog 13 #[.slice A0 l0.length c0] w fun e w' => e = .returned (.bool r) ∧ Below w.heap.size w w' := by
 have HR0 := Aside0.mk hr0
 have HC0 := Aside0.mk hc0
 clear hr0 hc0
 have HB := Aside0.mk (Below.refl w.heap.size w)
 have H : (if (l0.length : Int) > 1048576 then (some true) else ((spec_DrawProofSumIs.f k l0).bind fun bt896 => ((impl_ProofSumIs.f k bt896.1 bt896.2.1 bt896.2.2).bind fun t899 => ((spec_ProofSumIs.f k bt896.1 bt896.2.1 bt896.2.2).bind fun t900 => (if ((t899 == t900) = true) then (laws_FnProofSumIs.j0 k bt896.1 bt896.2.1 true (!t899)) else (laws_FnProofSumIs.j0 k bt896.1 bt896.2.1 false true)))))) = some r := h
 clear h
 by_cases c2 : (l0.length : Int) > 1048576
 ·rw [if_pos c2] at H
  have c2b0 : decide (1048576 < (l0.length : Int)) = true := decide_eq_true c2
  have c2b1 : decide (1048576 < l0.length) = true := decide_eq_true (by omega)
  clear c2
  obtain rfl := Option.some.inj H
  go_enter Tryd.func13, Tryd.ntmps13
  go_wp2
  go_ret
  exact ⟨by first | rfl | (simp [*, errW_none, errW_some] <;> rfl), HB.out⟩
 ·rw [if_neg c2] at H
  have c2b0 : decide (1048576 < (l0.length : Int)) = false := decide_eq_false c2
  have c2b1 : decide (1048576 < l0.length) = false := decide_eq_false (by omega)
  clear c2
  replace H := Option.bind_eq_some_iff.mp H
  obtain ⟨⟨t896, t897, t898⟩, A30, H⟩ := H
  replace H : ((impl_ProofSumIs.f k t896 t897 t898).bind fun t899 => ((spec_ProofSumIs.f k t896 t897 t898).bind fun t900 => (if ((t899 == t900) = true) then (laws_FnProofSumIs.j0 k t896 t897 true (!t899)) else (laws_FnProofSumIs.j0 k t896 t897 false true)))) = some r := H
  have A3 := Aside0.mk A30
  clear A30
  replace H := Option.bind_eq_some_iff.mp H
  obtain ⟨t899, A40, H⟩ := H
  replace H : ((spec_ProofSumIs.f k t896 t897 t898).bind fun t900 => (if ((t899 == t900) = true) then (laws_FnProofSumIs.j0 k t896 t897 true (!t899)) else (laws_FnProofSumIs.j0 k t896 t897 false true))) = some r := H
  have A4 := Aside0.mk A40
  clear A40
  replace H := Option.bind_eq_some_iff.mp H
  obtain ⟨t900, A50, H⟩ := H
  replace H : (if ((t899 == t900) = true) then (laws_FnProofSumIs.j0 k t896 t897 true (!t899)) else (laws_FnProofSumIs.j0 k t896 t897 false true)) = some r := H
  have A5 := Aside0.mk A50
  clear A50
  have HC6 := Aside0.mk H
  clear H
  go_enter Tryd.func13, Tryd.ntmps13
  go_upto_region 7 with (first | ((with_reducible refine gate_callee (f := 35) rfl ?_); refine goesL_ (some 15) rfl rfl Tryd.func35 (by kernel_rfl) rfl #[.slice A0 l0.length c0] rfl (by (try simp only [List.map_toArray, List.map_cons, List.map_nil]); rfl) ?_; (with_reducible refine (spec_DrawProofSumIs.calls k _ _ l0 t896 t897 t898 _ ?side1 ?side2 A3.out).mono ?_); (case side1 => repeat (exact HR0.out)); (case side2 => exact HC0.out); rintro e w7 ⟨rfl, hb⟩; refine ⟨_, rfl, ?_⟩; replace HB := Aside0.mk (below_step HB.out hb); (try clear hb)) | ((with_reducible refine gate_callee (f := 26) rfl ?_); refine goesL_ (some 22) rfl rfl Tryd.func26 (by kernel_rfl) rfl #[.string t896, .int .i64 t897, .string t898] rfl (by (try simp only [List.map_toArray, List.map_cons, List.map_nil]); rfl) ?_; (with_reducible refine (impl_ProofSumIs.calls k t896 t897 t898 t899 _ A4.out (GlobN.below hG HB.out)).mono ?_); rintro e w8 ⟨rfl, hb⟩; refine ⟨_, rfl, ?_⟩; replace HB := Aside0.mk (below_step HB.out hb); (try clear hb)) | ((with_reducible refine gate_callee (f := 31) rfl ?_); refine goesL_ (some 26) rfl rfl Tryd.func31 (by kernel_rfl) rfl #[.string t896, .int .i64 t897, .string t898] rfl (by (try simp only [List.map_toArray, List.map_cons, List.map_nil]); rfl) ?_; (with_reducible refine (spec_ProofSumIs.calls k t896 t897 t898 t900 _ A5.out).mono ?_); rintro e w9 ⟨rfl, hb⟩; refine ⟨_, rfl, ?_⟩; replace HB := Aside0.mk (below_step HB.out hb); (try clear hb)))
  go_cut [8, 35] (fun v8 v35 wc => ∃ (kq : Nat) (x8_5 : Bool) (x35_5 : Bool), v8 = .bool x8_5 ∧ v35 = .bool x35_5 ∧ Aside0 (laws_FnProofSumIs.j0 kq t896 t897 x8_5 x35_5 = some r) ∧ Aside0 (kq ≤ k) ∧ Aside0 (Below w.heap.size w wc))
  case first =>
   have H := HC6.out
   clear HC6
   by_cases c10 : ((t899 == t900) = true)
   ·rw [if_pos c10] at H
    have c10b0 : (t899 == t900) = true := c10
    (try (have c10b1 : decide (t899 = t900) = true := by simpa using c10))
    (try (have c10b2 : (t899 == t900) = true := by simpa using c10))
    clear c10
    (rw [c10b0])
    have H' := Aside0.mk H
    clear H
    go_wp2
    go_meet
    case rel => exact ⟨_, (true), (!t899), (by rfl), (by rfl), H', ⟨by omega⟩, ⟨HB.out⟩⟩
   ·rw [if_neg c10] at H
    have c10b0 : (t899 == t900) = false := by simpa using c10
    (try (have c10b1 : decide (t899 = t900) = false := by simpa using c10))
    (try (have c10b2 : (t899 == t900) = false := by simpa using c10))
    (try (have c10b3 : ¬ (t899 = t900) := by simpa using c10))
    clear c10
    (rw [c10b0])
    have H' := Aside0.mk H
    clear H
    go_wp2
    go_meet
    case rel => exact ⟨_, (false), (true), (by rfl), (by rfl), H', ⟨by omega⟩, ⟨HB.out⟩⟩
  case rest =>
   clear HC6
   try clear c2b0
   try clear c2b1
   obtain ⟨kq, x8_5, x35_5, rfl, rfl, HA, HJ5, HB⟩ := hcut
   cases kq with
   | zero => exact absurd HA.out (by simp [laws_FnProofSumIs.j0])
   | succ kj5 =>
    have H := HA.out
    clear HA
    simp only [laws_FnProofSumIs.j0] at H
    by_cases c11 : x35_5 = true
    ·subst c11
     replace H : (some x8_5) = some r := by rw [if_pos rfl] at H; exact H
     obtain rfl := Option.some.inj H
     go_wp2
     go_ret
     exact ⟨by first | rfl | (simp [*, errW_none, errW_some] <;> rfl), HB.out⟩
    ·replace c11 := Bool.eq_false_iff.mpr c11
     subst c11
     replace H : (laws_FnProofSumIs.l0 kj5 t896 t897 2) = some r := by rw [if_neg (show ¬ (false = true) by decide)] at H; exact H
     have H' := Aside0.mk H
     clear H
     go_wp2
     go_loopg [9] kj5 (fun kq v9 w' => ∃ (x9_2 : Int), v9 = .int .i64 x9_2 ∧ Aside0 (laws_FnProofSumIs.l0 kq t896 t897 x9_2 = some r) ∧ Aside0 (kq ≤ kj5) ∧ Aside0 (Below w.heap.size w w'))
     case atStart => exact ⟨(2), (by rfl), H', ⟨Nat.le_refl _⟩, ⟨HB.out⟩⟩
     case round =>
      clear H'
      obtain ⟨x9_2, rfl, HA, HK2, HB⟩ := hrel
      cases gk with
      | zero => exact absurd HA.out (by simp [laws_FnProofSumIs.l0])
      | succ k2 =>
       have H := HA.out
       clear HA
       simp only [laws_FnProofSumIs.l0] at H
       by_cases c12 : x9_2 < 10
       ·rw [if_pos c12] at H
        have c12b0 : decide (x9_2 < 10) = true := decide_eq_true c12
        clear c12
        obtain ⟨y901, hy901⟩ : ∃ y_ : List Int, y_ = (([(wrap64 (48 + x9_2)) % 256] : List Int)) := ⟨_, rfl⟩
        replace H : (if 5 + (strOfNums y901).size ≤ 9223372036854775807 then ((impl_ProofRestIs.f k2 t896 t897 ((⟨#[114, 101, 115, 116, 32]⟩ : ByteArray) ++ (strOfNums y901))).bind fun t904 => (if t904 = true then (some false) else (laws_FnProofSumIs.l0 k2 t896 t897 (wrap64 (x9_2 + 1))))) else (none)) = some r := by first | (have H2_ := (Option.bind_some _ _).symm.trans H; rw [hy901]; with_reducible exact H2_)
        have Ny901 := Aside0.mk hy901
        clear hy901
        by_cases c13 : 5 + (strOfNums y901).size ≤ 9223372036854775807
        ·rw [if_pos c13] at H
         have c13b0 := eq_true c13
         have c13b1 : decide (5 + (strOfNums y901).size ≤ 9223372036854775807) = true := decide_eq_true c13
         try have c13b2 : (9223372036854775807 < 5 + (strOfNums y901).size) = False := eq_false (Nat.not_lt.2 c13)
         replace H := Option.bind_eq_some_iff.mp H
         obtain ⟨t904, A140, H⟩ := H
         replace H : (if t904 = true then (some false) else (laws_FnProofSumIs.l0 k2 t896 t897 (wrap64 (x9_2 + 1)))) = some r := H
         have A14 := Aside0.mk A140
         clear A140
         by_cases c15 : t904 = true
         all_goals
          first
          |replace c15 := Bool.eq_false_iff.mpr c15
          |skip
          subst c15
          first
          |have H1 : (some false) = some r := by rw [if_pos rfl] at H; exact H
          |have H1 : (laws_FnProofSumIs.l0 k2 t896 t897 (wrap64 (x9_2 + 1))) = some r := by rw [if_neg (show ¬ (false = true) by decide)] at H; exact H
          clear H
          have H := H1
          clear H1
          first
          |obtain rfl := Option.some.inj H
          |have H' := Aside0.mk H
           clear H
          go_wp2_with (first | ((with_reducible refine gate_dst (N := 46) rfl ?_); refine Kd.R_lit (Kd.int .u8) _ 5 ?hg (N := 46) ?hd (xs := ([(wrap64 (48 + x9_2)) % 256] : List Int)) (inner := [.int .u8 ((wrap64 (48 + x9_2)) % 256)]) (ok := fun _ => True) (okp := fun _ => True) ?hr ?hp (fun _ hk => hk) trivial (Below.refl _ _) (Nat.le_refl _) (by simp) ?_; (case hd => rfl); (case hg => rfl); (case hr => first | (go_simp; done)); (case hp => exact (Reps.one (show Kd.M (Kd.int .u8) _ _ _ ((wrap64 (48 + x9_2)) % 256) [.int .u8 ((wrap64 (48 + x9_2)) % 256)] from rfl) (Reps.none _ _))); intro v902 w16 ho17 hb hg_ hnew_; clear hg_ hnew_; (rw [← Ny901.out] at ho17); have HO903 := Aside0.mk (Kd.R_lower ho17 (below_size HB.out)); replace HB := Aside0.mk (below_step HB.out hb); clear hb ho17; have hcv18 := own_string (P := Tryd.prog) Tryd.underlying22 Tryd.underlying5 Tryd.underlying9 (Kd.own_of_R HO903.out)) | ((with_reducible refine gate_callee (f := 18) rfl ?_); refine goesL_ (some 49) rfl rfl Tryd.func18 (by kernel_rfl) rfl #[.string t896, .int .i64 t897, .string ((⟨#[114, 101, 115, 116, 32]⟩ : ByteArray) ++ (strOfNums y901))] rfl (by (try simp only [List.map_toArray, List.map_cons, List.map_nil]); rfl) ?_; (with_reducible refine (impl_ProofRestIs.calls k2 t896 t897 ((⟨#[114, 101, 115, 116, 32]⟩ : ByteArray) ++ (strOfNums y901)) _ _ A14.out (GlobN.below hG HB.out)).mono ?_); rintro e w19 ⟨rfl, hb⟩; refine ⟨_, rfl, ?_⟩; replace HO903 := Aside0.mk (Kd.R_below HO903.out hb); replace HB := Aside0.mk (below_step HB.out hb); (try clear hb)))
          first
          |go_ret
           exact ⟨by first | rfl | (simp [*, errW_none, errW_some] <;> rfl), HB.out⟩
          |go_roundg k2
           case measure => have := HJ5.out; have := HK2.out; omega
           case rel => exact ⟨(wrap64 (x9_2 + 1)), (by rfl), H', ⟨by have := HJ5.out; have := HK2.out; omega⟩, ⟨HB.out⟩⟩
        ·rw [if_neg c13] at H
         exact absurd H (by simp)
       ·rw [if_neg c12] at H
        have c12b0 : decide (x9_2 < 10) = false := decide_eq_false c12
        clear c12
        by_cases c24 : t897 > 2000
        ·rw [if_pos c24] at H
         have c24b0 : decide (2000 < t897) = true := decide_eq_true c24
         clear c24
         obtain rfl := Option.some.inj H
         go_wp2
         go_ret
         exact ⟨by first | rfl | (simp [*, errW_none, errW_some] <;> rfl), HB.out⟩
        ·rw [if_neg c24] at H
         have c24b0 : decide (2000 < t897) = false := decide_eq_false c24
         clear c24
         replace H := Option.bind_eq_some_iff.mp H
         obtain ⟨t905, A250, H⟩ := H
         replace H : (some t905) = some r := H
         have A25 := Aside0.mk A250
         clear A250
         obtain rfl := Option.some.inj H
         go_wp2_with (first | (go_at_call 19; (with_reducible refine (impl_StarHas.calls k2 t896 t897 t905 _ A25.out).mono ?_); rintro e w26 ⟨rfl, hb⟩; replace HB := Aside0.mk (below_step HB.out hb); (try clear hb)))
         go_ret
         exact ⟨by first | rfl | (simp [*, errW_none, errW_some] <;> rfl), HB.out⟩

/-- THE ONE PURE STATEMENT of laws_FnProofSumIs: yours. -/
def laws_FnProofSumIs.Pure : Prop := ∀ (l0 : List Int), l0.length ≤ maxLen → l0.length * 1 ≤ 140737488351232 → (∀ x ∈ l0, (Lit.int .u8 x).wf = true) → ∃ k, laws_FnProofSumIs.f k l0 = some true
theorem laws_FnProofSumIs.walk (P : laws_FnProofSumIs.Pure) (a0 : Option Addr) (len0 cap0 : Nat) (z0 : List Int) (w : World) (w0 : (a0 = none ∧ len0 = 0 ∧ cap0 = 0 ∧ z0 = []) ∨ ∃ x, a0 = some x ∧ len0 ≤ cap0 ∧ cap0 ≤ maxLen ∧ z0.length = cap0 ∧ (∀ i, i < z0.length → w.cell? (x.add i) = some (.int .u8 (z0.getD i 0))) ∧ ∀ n ∈ z0, (Lit.int .u8 n).wf = true) (y0 : len0 * 1 ≤ 140737488351232) (hG : GlobN w) :
  Calls Tryd.prog 13 #[.slice a0 len0 cap0] w fun e w' => e = .returned (.bool true) ∧ Below w.heap.size w w' := by
 obtain ⟨l0, rfl, hr0, hm0, hw0, hc0⟩ := ReadsInt.ofRowC w0
 obtain ⟨k, h⟩ := P l0 hm0 y0 hw0
 refine (laws_FnProofSumIs.calls k _ _ l0 true w (Kd.C_of_reads (d := (0 : Int)) (h1 := fun _ => rfl) hr0) hc0 h hG).mono ?_
 rintro e w' ⟨rfl, hd⟩
 exact ⟨rfl, hd⟩

end Go.Proofs.YtinjblbfaijhdaaDoor.Q
