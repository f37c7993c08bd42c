/- The program's ProofSumIs returns what the reference's returns, for all arguments; no condition beyond the statement's own. -/
import Derived.Lib.SplitLaws
import Derived.Lib.AtoiAll
import Derived.Test.YtinjblbfaijhdaaDoorCFnExactProofSumIs2
import Derived.Test.YtinjblbfaijhdaaDoorCFnExactProofSumIs8
import Derived.Test.YtinjblbfaijhdaaDoorCFnExactProofSumIs9
import Derived.Test.YtinjblbfaijhdaaDoorCFnExactProofSumIs13
import Derived.Test.YtinjblbfaijhdaaDoorCFnExactProofSumIs14
namespace Go.Proofs.YtinjblbfaijhdaaDoor.Q
open Go.RowKit Go.Proofs.YtinjblbfaijhdaaDoorW.PrintWords Go.Proofs.YtinjblbfaijhdaaDoorW.PrintLast Go.Proofs.YtinjblbfaijhdaaDoorW.PrintMore
attribute [local go_sem] max2_int min2_int max_two min_two max_three min_three max_four min_four   -- for this text's walks alone
set_option linter.unusedVariables false
set_option linter.unusedSimpArgs false
/-- The cells of the library's variables that are read: bytealg.MaxLen, strconv.ErrSyntax, strconv.ErrRange. -/
def Cells3 (w : World) : Prop := (∃ m : Int, w.cell? ⟨2, 0, none⟩ = some (.int .i64 m)) ∧ (∃ ev : Value, w.cell? ⟨0, 0, none⟩ = some ev ∧ (ev = .nilIface ∨ ∃ te pe, ev = .iface te pe)) ∧ ∃ ev : Value, w.cell? ⟨1, 0, none⟩ = some ev ∧ (ev = .nilIface ∨ ∃ te pe, ev = .iface te pe)
def GlobN (w : World) : Prop := Glob w ∧ Cells3 w
theorem GlobN.below {w w' : World} (h : GlobN w) (hb : Below w.heap.size w w') : GlobN w' := by
 obtain ⟨h0, ⟨m, h1⟩, ⟨e1, h2, h3⟩, ⟨e2, h4, h5⟩⟩ := h
 exact ⟨h0.below hb, ⟨m, pw_cell_below hb h1⟩, ⟨e1, pw_cell_below hb h2, h3⟩, ⟨e2, pw_cell_below hb h4, h5⟩⟩
def impl_numbersOf.sp : ByteArray := ⟨#[32]⟩
/-- The pieces between spaces. -/
def impl_numbersOf.parts (s : ByteArray) : List ByteArray := Lib.splitB impl_numbersOf.sp 0 (Lib.countB s impl_numbersOf.sp) s
theorem impl_numbersOf.parts_length (s : ByteArray) : (impl_numbersOf.parts s).length = Lib.countB s impl_numbersOf.sp + 1 := Lib.splitB_all impl_numbersOf.sp (by decide) 0 _ s rfl
/-- A number from 0 to 99999 whose decimal signs the piece is. -/
def impl_numbersOf.num (s : ByteArray) : Option Int :=
 match Lib.atoiAll s.data.toList with
 | .ok v => if 0 ≤ v ∧ v ≤ 99999 then if (⟨(Lib.itoa v).toArray⟩ : ByteArray) = s then some v else none else none
 | _ => none
/-- The numbers of pieces, if all are. -/
def impl_numbersOf.nums : List ByteArray → Option (List Int)
 | [] => some []
 | s :: l => (impl_numbersOf.num s).bind fun v => (impl_numbersOf.nums l).bind fun r => some (v :: r)
theorem impl_numbersOf.nums_snoc (l : List ByteArray) (s : ByteArray) : impl_numbersOf.nums (l ++ [s]) = (impl_numbersOf.nums l).bind fun r => (impl_numbersOf.num s).bind fun v => some (r ++ [v]) := by
 induction l with
 | nil => simp [impl_numbersOf.nums]
 | cons a l ih =>
  simp only [List.cons_append, impl_numbersOf.nums, ih]
  cases impl_numbersOf.num a <;> cases impl_numbersOf.nums l <;> cases impl_numbersOf.num s <;> rfl
theorem impl_numbersOf.nums_bad (l : List ByteArray) (k : Nat) (h : k < l.length) (hk : impl_numbersOf.num (l.getD k ByteArray.empty) = none) : impl_numbersOf.nums l = none := by
 induction l generalizing k with
 | nil => simp at h
 | cons a l ih =>
  cases k with
  | zero =>
   have : impl_numbersOf.num a = none := by simpa using hk
   simp [impl_numbersOf.nums, this]
  | succ k =>
   have := ih k (by simpa using h) (by simpa using hk)
   simp only [impl_numbersOf.nums, this]
   cases impl_numbersOf.num a <;> rfl
theorem impl_numbersOf.take (l : List ByteArray) (k : Nat) (h : k < l.length) : l.take (k + 1) = l.take k ++ [l.getD k ByteArray.empty] := by
 rw [List.take_succ_eq_append_getElem h]; simp [List.getD, List.getElem?_eq_getElem h]
def impl_numbersOf.f (a0 : ByteArray) (a1 : ByteArray) : Option (List Int × Bool) :=
 if a0.size < 4294967281 then
  match impl_numbersOf.nums (impl_numbersOf.parts a0).tail with
  | some l => some (l, decide ((impl_numbersOf.parts a0).headD ByteArray.empty = a1))
  | none => some ([], false)
 else none
/-- strconv.Atoi at a piece that spells an int. -/
theorem impl_numbersOf.atoi_ok (s : ByteArray) (hs : s.size ≤ 281474976710656) (v : Int) (h : Lib.atoiAll s.data.toList = .ok v) (w : World) :
  Calls Tryd.prog 73 #[.string s] w fun e w' => e = .returned (.tuple #[.int .i64 v, .nilIface]) ∧ Below w.heap.size w w' := by
 refine (Tryd.strconv_Atoi_ok s (by omega) v h w).mono ?_
 rintro e w' ⟨rfl, hw⟩
 refine ⟨rfl, ?_⟩
 rcases hw with rfl | ⟨t, rfl⟩
 ·exact Below.refl _ _
 ·exact ⟨rfl, rfl, rfl, by have := Lib.bytesWorld_size w 5 t; omega, fun j hj => Lib.bytesWorld_at_old w 5 t j hj⟩
/-- strconv.Atoi at another piece. -/
theorem impl_numbersOf.atoi_bad (s : ByteArray) (hs : s.size ≤ 281474976710656) (h : ∀ v, Lib.atoiAll s.data.toList ≠ .ok v) (w : World) (hG : GlobN w) :
  Calls Tryd.prog 73 #[.string s] w fun e w' => ∃ (v : Int) (te : TypeId) (p : Value), e = .returned (.tuple #[.int .i64 v, .iface te p]) ∧ Below w.heap.size w w' := by
 obtain ⟨_, _, ⟨e1, h2, h3⟩, ⟨e2, h4, h5⟩⟩ := hG
 cases k : Lib.atoiAll s.data.toList with
 | ok v => exact absurd k (h v)
 | «syntax» =>
  refine (Tryd.strconv_Atoi_syntax s hs k e1 w h2 h3).mono ?_
  rintro e w' ⟨N, rfl, _, _, hb⟩
  exact ⟨_, _, _, rfl, hb⟩
 | range =>
  refine (Tryd.strconv_Atoi_range s hs k e2 w h4 h5).mono ?_
  rintro e w' ⟨N, rfl, _, _, hb⟩
  exact ⟨_, _, _, rfl, hb⟩
theorem impl_numbersOf.in_eq (v : Int) : impl_in.f v 0 99999 = some (decide (0 ≤ v ∧ v ≤ 99999)) := by
 unfold impl_in.f
 by_cases c1 : 0 ≤ v
 ·by_cases c2 : v ≤ 99999 <;> simp [c1, c2]
 ·simp [c1]
theorem impl_numbersOf.beq (a b : ByteArray) : (a.toList == b.toList) = decide (a = b) := by
 rw [Bool.eq_iff_iff, beq_iff_eq, decide_eq_true_iff, Lib.toList_data, Lib.toList_data]
 constructor
 ·intro h; cases a; cases b; simp only at h; congr; exact Array.toList_inj.1 h
 ·rintro rfl; rfl
theorem impl_numbersOf.part_size (s : ByteArray) (x : ByteArray) (h : x ∈ impl_numbersOf.parts s) : x.size ≤ s.size := by
 suffices all : ∀ (k : Nat) (s : ByteArray), ∀ x ∈ Lib.splitB impl_numbersOf.sp 0 k s, x.size ≤ s.size from all _ s x h
 intro k
 induction k with
 | zero =>
  intro s x hx
  simp only [Lib.splitB, List.mem_singleton] at hx
  rw [hx]; exact Nat.le_refl _
 | succ k ih =>
  intro s x hx
  unfold Lib.splitB at hx
  split at hx
  ·simp only [List.mem_singleton] at hx
   rw [hx]; exact Nat.le_refl _
  ·rcases List.mem_cons.1 hx with e | e
   ·rw [e, ByteArray.size_extract]; omega
   ·have := ih _ x e
    rw [ByteArray.size_extract] at this
    omega
def impl_numbersOf.T11 : Bool × List (List Nat × List Nat) := (true, [([], []), ([], []), ([1], [1]), ([2], [2]), ([], []), ([3, 4], [3, 4]), ([0, 0], [0]), ([5, 6, 0, 1, 2, 3, 4, 5, 6], [5])])
def impl_numbersOf.B11 : List Nat := [0, 0, 2, 6, 0, 30, 1, 127]
theorem impl_numbersOf.tab11 : rtab .any (opsOf Tryd.f48 11) = impl_numbersOf.T11 := by kernel_rfl
theorem impl_numbersOf.bits11 : waitsOk impl_numbersOf.T11.2 impl_numbersOf.B11 = true := by kernel_rfl
set_option maxHeartbeats 2000000 in
set_option maxRecDepth 100000 in
theorem impl_numbersOf.calls (a0 : ByteArray) (a1 : ByteArray) (r1 : List Int) (r2 : Bool) (w : World) (h : impl_numbersOf.f a0 a1 = some (r1, r2)) (hG : GlobN w) :
  Calls Tryd.prog 48 #[.string a0, .string a1] w fun e w' => ∃ v0_ : Value, e = .returned (.tuple #[v0_, .bool r2]) ∧ Kd.R (Kd.int .i64) 3 w' w.heap.size (fun _ => True) v0_ r1 ∧ Below w.heap.size w w' := by
 unfold impl_numbersOf.f at h
 split at h
 case isFalse => cases h
 rename_i hs
 have H := Lib.hid h
 clear h
 obtain ⟨m, hm⟩ := hG.2.1
 have C := Tryd.strings_Split a0 impl_numbersOf.sp m w hs hm (by decide)
 have hL := impl_numbersOf.parts_length a0
 rw [show (Lib.splitB impl_numbersOf.sp 0 (Lib.countB a0 impl_numbersOf.sp) a0) = impl_numbersOf.parts a0 from rfl] at C
 have hN : Lib.countB a0 impl_numbersOf.sp ≤ a0.size := Lib.countB_le impl_numbersOf.sp (by decide) a0.size a0 (Nat.le_refl _)
 generalize Lib.countB a0 impl_numbersOf.sp = N at C hL hN
 generalize hP : impl_numbersOf.parts a0 = L at C hL H
 have HL := Lib.hid hL
 have HS : Aside0 (∀ y ∈ L, y.size ≤ a0.size) := ⟨fun y hy => impl_numbersOf.part_size a0 y (by rw [hP]; exact hy)⟩
 obtain ⟨x, hx⟩ : ∃ x, x = L.getD 0 ByteArray.empty := ⟨_, rfl⟩
 have HC : Aside0 (∀ j, j < N + 1 → (w.alloc (.cells (L.map Value.string).toArray 9)).cell? ⟨w.heap.size, j, none⟩ = some (.string (L.getD j ByteArray.empty))) := ⟨fun j hj => by
  have h1 : (w.alloc (.cells (L.map Value.string).toArray 9)).heap[w.heap.size]? = some (.cells (L.map Value.string).toArray 9 (0, 0)) := blk_new w (.cells (L.map Value.string).toArray 9)
  refine (blk_cell h1 j).trans ?_
  have hj2 : j < L.length := by omega
  simp [List.getD, hj2]⟩
 have HB0 : Aside0 (Below w.heap.size w (w.alloc (.cells (L.map Value.string).toArray 9))) := ⟨(Below.refl _ w).alloc (Nat.le_refl _) _⟩
 have G0 : Aside0 (w.heap.size ≤ (w.alloc (.cells (L.map Value.string).toArray 9)).heap.size) := ⟨HB0.out.size⟩
 have G1 : Aside0 (w.heap.size < (w.alloc (.cells (L.map Value.string).toArray 9)).heap.size) := ⟨by simp⟩
 generalize w.alloc (.cells (L.map Value.string).toArray 9) = w1 at *
 have HG := Lib.hid (hG.below HB0.out)
 have hc0 := HC.out 0 (by omega)
 rw [← hx] at hc0
 clear hL hP
 go_enter Tryd.func48, Tryd.ntmps48
 go_wp2_with (go_at_call 72; refine C.mono ?_; rintro e w' ⟨rfl, hw⟩; obtain rfl : w1 = w' := hw.symm)
 clear C
 ·-- one piece: no number
  obtain rfl : N = 0 := by assumption
  have H2 : r1 = [] ∧ r2 = decide (x = a1) := by
   have hl := HL.out
   have HX := H.out
   match L, hl with
   | [x], _ =>
    simp only [List.tail_cons, impl_numbersOf.nums, Option.some.injEq, Prod.mk.injEq, List.headD_cons] at HX
    exact ⟨HX.1.symm, by rw [← HX.2, hx]; rfl⟩
  obtain ⟨rfl, rfl⟩ := H2
  go_loopw [7, 17] (fun v7 v17 w' => v7 = .slice none 0 0 ∧ v17 = .int .i64 0 ∧ w' = w1) (fun _ _ _ => 0)
  case atStart => exact ⟨rfl, rfl, rfl⟩
  case round =>
   obtain ⟨rfl, rfl, rfl⟩ := hrel
   go_wp2
   have HB9 := Aside0.mk (below_drew HB0.out)
   refine start_ (n := 8) (S := fun w' => w'.cell? ⟨w.heap.size, 0, none⟩ = some (.string x)) (ds := []) #[false, false, false, false, false, false, false, false] (by kernel_rfl) rfl rfl hc0 (fun hHeld => ?_); refine with_tabW impl_numbersOf.tab11 impl_numbersOf.bits11 (fun HT_ HW_ => ?_)
   generalize wr.drew = W9 at HB9 hHeld ⊢
   refine pure_ (i := 0) (N := some 44) (v := ?_) (a' := ?_) #[true, false, false, false, false, false, false, false] rfl rfl (any_of HT_.out (by kernel_rfl)) (fun _ _ _ h => h) (Or.inl ⟨by rfl, ?_⟩) ?_ ?_
   rotate_left
   ·intro w'
    go_simp
    with_reducible rfl
   rotate_left
   ·simp only [Act.put, List.setIfInBounds_toArray, List.set_cons_zero, List.set_cons_succ, i64_w, i32_w]
    rfl
   refine pure_ (i := 1) (N := some 45) (v := ?_) (a' := ?_) #[true, true, false, false, false, false, false, false] rfl rfl (any_of HT_.out (by kernel_rfl)) (fun _ _ _ h => h) (Or.inl ⟨by rfl, ?_⟩) ?_ ?_
   rotate_left
   ·intro w'
    go_simp
    with_reducible rfl
   rotate_left
   ·simp only [Act.put, List.setIfInBounds_toArray, List.set_cons_zero, List.set_cons_succ, i64_w, i32_w]
    rfl
   refine pure_ (i := 2) (N := some 46) (v := ?_) (a' := ?_) #[true, true, true, false, false, false, false, false] rfl rfl (any_of HT_.out (by kernel_rfl)) (fun _ _ _ h => h) (Or.inl ⟨by rfl, ?_⟩) ?_ ?_
   rotate_left
   ·intro w'
    go_simp
    with_reducible rfl
   rotate_left
   ·simp only [Act.put, List.setIfInBounds_toArray, List.set_cons_zero, List.set_cons_succ, i64_w, i32_w]
    rfl
   refine take_ (i := 3) (N := some 47) (v := ?_) (a' := ?_) #[true, true, true, true, false, false, false, false] rfl rfl (take_ofW HT_.out HW_.out (by kernel_rfl)) (fun _ _ _ h => h) (Or.inl ⟨by rfl, ?_⟩) hHeld ?_ ?_
   rotate_left
   ·rintro w' s0
    go_simp
    with_reducible rfl
   rotate_left
   ·simp only [Act.put, List.setIfInBounds_toArray, List.set_cons_zero, List.set_cons_succ, i64_w, i32_w]
    rfl
   refine pure_ (i := 4) (N := some 48) (v := ?_) (a' := ?_) #[true, true, true, true, true, false, false, false] rfl rfl (any_of HT_.out (by kernel_rfl)) (fun _ _ _ h => h) (Or.inl ⟨by rfl, ?_⟩) ?_ ?_
   rotate_left
   ·intro w'
    go_simp
    with_reducible rfl
   rotate_left
   ·simp only [Act.put, List.setIfInBounds_toArray, List.set_cons_zero, List.set_cons_succ, i64_w, i32_w]
    rfl
   refine pure_ (i := 5) (N := some 49) (v := ?_) (a' := ?_) #[true, true, true, true, true, true, false, false] rfl rfl (any_of HT_.out (by kernel_rfl)) (fun _ _ _ h => h) (Or.inl ⟨by rfl, ?_⟩) ?_ ?_
   rotate_left
   ·intro w'
    go_simp
    with_reducible rfl
   rotate_left
   ·simp only [Act.put, List.setIfInBounds_toArray, List.set_cons_zero, List.set_cons_succ, i64_w, i32_w]
    rfl
   refine pure_ (i := 6) (N := some 4) (v := ?_) (a' := ?_) #[true, true, true, true, true, true, true, false] rfl rfl (any_of HT_.out (by kernel_rfl)) (fun _ _ _ h => h) (Or.inl ⟨by rfl, ?_⟩) ?_ ?_
   rotate_left
   ·intro w'
    go_simp
    with_reducible rfl
   rotate_left
   ·simp only [Act.put, List.setIfInBounds_toArray, List.set_cons_zero, List.set_cons_succ, i64_w, i32_w]
    rfl
   refine pure_ (i := 7) (N := some 5) (v := ?_) (a' := ?_) #[true, true, true, true, true, true, true, true] rfl rfl (any_of HT_.out (by kernel_rfl)) (fun _ _ _ h => h) (Or.inl ⟨by rfl, ?_⟩) ?_ ?_
   rotate_left
   ·intro w'
    go_simp
    with_reducible rfl
   rotate_left
   ·simp only [Act.put, List.setIfInBounds_toArray, List.set_cons_zero, List.set_cons_succ, i64_w, i32_w]
    rfl
   refine done_ (done_of HT_.out (by kernel_rfl)) ?_
   try go_wp2
   have hd : ((L[0]?.getD ByteArray.empty).toList == a1.toList) = decide (x = a1) := by
    rw [impl_numbersOf.beq, hx]; rfl
   rw [hd]
   go_ret2
   exact ⟨_, rfl, Kd.R_nil _ _ _ _ _, HB9.out⟩
 ·-- several pieces
  have hN0 : N ≠ 0 := by assumption
  have hT : L.tail.length = N := by rw [List.length_tail, HL.out]; omega
  have HT := Lib.hid hT
  clear hT
  go_loopw [7, 17] (fun v7 v17 w' => ∃ (k : Nat) (acc : List Int), k ≤ N ∧ v17 = .int .i64 k ∧ acc.length ≤ k ∧ Aside0 (impl_numbersOf.nums (L.tail.take k) = some acc) ∧ Aside0 (Kd.R (Kd.int .i64) 3 w' w1.heap.size (fun _ => True) v7 acc) ∧ Aside0 (Below w1.heap.size w1 w')) (fun _ v17 _ => N - (intOf v17).toNat)
  case atStart => exact ⟨0, [], Nat.zero_le _, rfl, Nat.le_refl _, ⟨rfl⟩, ⟨Kd.R_nil _ _ _ _ _⟩, ⟨Below.refl _ _⟩⟩
  case round =>
   obtain ⟨k, acc, hk, rfl, hacc, HO, HR, HB⟩ := hrel
   by_cases hlt : k < N
   ·have hcell : wr.cell? ⟨w.heap.size, 1 + k, none⟩ = some (.string (L.getD (k + 1) ByteArray.empty)) := by
     have := HC.out (k + 1) (by omega)
     rw [show (⟨w.heap.size, k + 1, none⟩ : Addr) = ⟨w.heap.size, 1 + k, none⟩ by rw [Nat.add_comm]] at this
     exact (HB.out.cell (p := ⟨w.heap.size, 1 + k, none⟩) (by have := G1.out; simp; omega)).trans this
    have hsz : (L.getD (k + 1) ByteArray.empty).size ≤ 281474976710656 := by
     have hm : L.getD (k + 1) ByteArray.empty ∈ L := by
      have : k + 1 < L.length := by have := HL.out; omega
      simp only [List.getD, List.getElem?_eq_getElem this, Option.getD_some]
      exact List.getElem_mem this
     have := HS.out _ hm
     omega
    have hget : L.tail.getD k ByteArray.empty = L.getD (k + 1) ByteArray.empty := by simp [List.getD]
    have htk := impl_numbersOf.take L.tail k (by rw [HT.out]; exact hlt)
    rw [hget] at htk
    have hbad : impl_numbersOf.num (L.getD (k + 1) ByteArray.empty) = none → r1 = [] ∧ r2 = false := by
     intro hn
     have hX := impl_numbersOf.nums_bad L.tail k (by rw [HT.out]; exact hlt) (by rw [hget]; exact hn)
     have h2 := H.out
     rw [hX] at h2
     simp only [Option.some.injEq, Prod.mk.injEq] at h2
     exact ⟨h2.1.symm, h2.2.symm⟩
    have HBAD := Lib.hid hbad
    have HTK := Lib.hid htk
    clear hget htk hbad
    generalize L.getD (k + 1) ByteArray.empty = s at hcell hsz HBAD HTK
    have HG2 := Aside0.mk (HG.out.below HB.out)
    have HW := Aside0.mk (below_then HB0.out G0.out HB.out)
    by_cases hv : ∃ v, Lib.atoiAll s.data.toList = .ok v
    ·obtain ⟨v, hv⟩ := hv
     have C1 := Aside0.mk (impl_numbersOf.atoi_ok s hsz v hv wr)
     have hb := Lib.atoiAll_bounds hv
     by_cases hr : 0 ≤ v ∧ v ≤ 99999
     ·have C2 := Aside0.mk (fun W => impl_in.calls v 0 99999 true W (by rw [impl_numbersOf.in_eq, decide_eq_true hr]))
      have hI : strconv_Itoa_68.f v = some ⟨(Lib.itoa v).toArray⟩ := by
       unfold strconv_Itoa_68.f
       rw [if_pos (by omega)]
      have hnum : impl_numbersOf.num s = if (⟨(Lib.itoa v).toArray⟩ : ByteArray) = s then some v else none := by
       unfold impl_numbersOf.num
       rw [hv]
       simp only [if_pos hr]
      generalize (⟨(Lib.itoa v).toArray⟩ : ByteArray) = z at hI hnum
      have hbq := impl_numbersOf.beq z s
      by_cases he : z = s
      ·rw [if_pos he] at hnum
       rw [decide_eq_true he] at hbq
       have hne : (z.toList != s.toList) = false := by unfold bne; rw [hbq]; rfl
       have HN := Lib.hid (show impl_numbersOf.nums (L.tail.take (k + 1)) = some (acc ++ [v]) by rw [HTK.out, impl_numbersOf.nums_snoc, HO.out, hnum]; rfl)
       clear he hnum HBAD hb
       go_wp2_with (first | (go_at_call 73; refine C1.out.mono ?_; rintro e w2 ⟨rfl, hb2⟩; have HR2 := Aside0.mk (Kd.R_below HR.out hb2); have HB2 := Aside0.mk (below_step HB.out hb2); have HW2 := Aside0.mk (below_step HW.out hb2); have HG3 := Aside0.mk (HG2.out.below hb2); clear hb2) | (go_at_call 41; refine (C2.out _).mono ?_; rintro e w3 ⟨rfl, hd3⟩; have hb3 := Drawn0.below hd3; have HR3 := Aside0.mk (Kd.R_below HR2.out hb3); have HB3 := Aside0.mk (below_step HB2.out hb3); have HW3 := Aside0.mk (below_step HW2.out hb3); have HG4 := Aside0.mk (HG3.out.below hb3); clear hb3 hd3) | (go_at_call 68; refine (strconv_Itoa_68.calls v _ _ hI HG4.out.1).mono ?_; rintro e w4 ⟨rfl, hb4⟩; have HR4 := Aside0.mk (Kd.R_below HR3.out hb4); have HB4 := Aside0.mk (below_step HB3.out hb4); have HW4 := Aside0.mk (below_step HW3.out hb4); clear hb4) | ((with_reducible refine gate_builtin (b := .append) (xs := #[.tmp 39, .tmp 41]) rfl ?_); at_builtin; refine Kd.R_append (Kd.int .i64) (w0 := w1) w1.heap.size rfl (.tmp 39) (.tmp 41) 32 3 (.int .i64 0) 8 rfl Tryd.underlying32 info3 rfl (by decide) (by omega) u7 acc v [.int .i64 v] (fun _ => True) (fun _ => False) rfl rfl ?aP (fun _ hk => hk.elim) ?aF ?aO ?aB ?aS ?aL ?_; (case aP => exact rfl); (case aB => exact HB4.out); (case aF => exact (fun _ _ => trivial)); (case aO => exact HR4.out); (case aS => exact HB4.out.size); (case aL => omega); intro v105 w10 ho hb hg hat; have HB5 := Aside0.mk hb; have HR5 := Aside0.mk ho; clear ho hb hg hat))
       exact ⟨⟨k + 1, acc ++ [v], by omega, by go_num, by simp; omega, ⟨HN.out⟩, HR5, HB5⟩, by simp [intOf]; omega⟩
      ·rw [if_neg he] at hnum
       rw [decide_eq_false he] at hbq
       have hne : (z.toList != s.toList) = true := by unfold bne; rw [hbq]; rfl
       obtain ⟨rfl, rfl⟩ := HBAD.out hnum
       clear he hnum HBAD hb
       go_wp2_with (first | (go_at_call 73; refine C1.out.mono ?_; rintro e w2 ⟨rfl, hb2⟩; have HR2 := Aside0.mk (Kd.R_below HR.out hb2); have HB2 := Aside0.mk (below_step HB.out hb2); have HW2 := Aside0.mk (below_step HW.out hb2); have HG3 := Aside0.mk (HG2.out.below hb2); clear hb2) | (go_at_call 41; refine (C2.out _).mono ?_; rintro e w3 ⟨rfl, hd3⟩; have hb3 := Drawn0.below hd3; have HR3 := Aside0.mk (Kd.R_below HR2.out hb3); have HB3 := Aside0.mk (below_step HB2.out hb3); have HW3 := Aside0.mk (below_step HW2.out hb3); have HG4 := Aside0.mk (HG3.out.below hb3); clear hb3 hd3) | (go_at_call 68; refine (strconv_Itoa_68.calls v _ _ hI HG4.out.1).mono ?_; rintro e w4 ⟨rfl, hb4⟩; have HR4 := Aside0.mk (Kd.R_below HR3.out hb4); have HB4 := Aside0.mk (below_step HB3.out hb4); have HW4 := Aside0.mk (below_step HW3.out hb4); clear hb4))
       go_ret2
       exact ⟨_, rfl, Kd.R_nil _ _ _ _ _, HW4.out⟩
     ·have C2 := Aside0.mk (fun W => impl_in.calls v 0 99999 false W (by rw [impl_numbersOf.in_eq, decide_eq_false hr]))
      have hnum : impl_numbersOf.num s = none := by
       unfold impl_numbersOf.num
       rw [hv]
       simp only [if_neg hr]
      obtain ⟨rfl, rfl⟩ := HBAD.out hnum
      clear hnum HBAD hb
      go_wp2_with (first | (go_at_call 73; refine C1.out.mono ?_; rintro e w2 ⟨rfl, hb2⟩; have HR2 := Aside0.mk (Kd.R_below HR.out hb2); have HB2 := Aside0.mk (below_step HB.out hb2); have HW2 := Aside0.mk (below_step HW.out hb2); have HG3 := Aside0.mk (HG2.out.below hb2); clear hb2) | (go_at_call 41; refine (C2.out _).mono ?_; rintro e w3 ⟨rfl, hd3⟩; have hb3 := Drawn0.below hd3; have HR3 := Aside0.mk (Kd.R_below HR2.out hb3); have HB3 := Aside0.mk (below_step HB2.out hb3); have HW3 := Aside0.mk (below_step HW2.out hb3); have HG4 := Aside0.mk (HG3.out.below hb3); clear hb3 hd3))
      go_ret2
      exact ⟨_, rfl, Kd.R_nil _ _ _ _ _, HW3.out⟩
    ·have C1 := Aside0.mk (impl_numbersOf.atoi_bad s hsz (fun v h => hv ⟨v, h⟩) wr HG2.out)
     have hn : impl_numbersOf.num s = none := by
      unfold impl_numbersOf.num
      split
      ·rename_i v h; exact absurd ⟨v, h⟩ hv
      ·rfl
     obtain ⟨rfl, rfl⟩ := HBAD.out hn
     clear hn hv HBAD
     go_wp2_with (go_at_call 73; refine C1.out.mono ?_; rintro e w2 ⟨v, te, p, rfl, hb2⟩; have HW2 := Aside0.mk (below_step HW.out hb2); clear hb2)
     go_ret2
     exact ⟨_, rfl, Kd.R_nil _ _ _ _ _, HW2.out⟩
   ·obtain rfl : k = N := by omega
    have h2 := H.out
    have hO := HO.out
    rw [List.take_of_length_le (by rw [HT.out]; exact Nat.le_refl _)] at hO
    rw [hO] at h2
    simp only [Option.some.injEq, Prod.mk.injEq] at h2
    have hh : L.headD ByteArray.empty = x := by
     rw [hx]
     cases L with
     | nil => rfl
     | cons a l => rfl
    rw [hh] at h2
    obtain ⟨rfl, rfl⟩ := h2
    clear hO HO H
    have hc1 : wr.cell? ⟨w.heap.size, 0, none⟩ = some (.string x) := (HB.out.cell (p := ⟨w.heap.size, 0, none⟩) (by have := G1.out; simpa using this)).trans hc0
    have HW := Aside0.mk (below_then HB0.out G0.out HB.out)
    go_wp2
    clear hc0
    have hc0 := hc1
    have HB9 := Aside0.mk (below_drew HW.out)
    have HR9 := Aside0.mk (Kd.R_drew HR.out)
    refine start_ (n := 8) (S := fun w' => w'.cell? ⟨w.heap.size, 0, none⟩ = some (.string x)) (ds := []) #[false, false, false, false, false, false, false, false] (by kernel_rfl) rfl rfl hc0 (fun hHeld => ?_); refine with_tabW impl_numbersOf.tab11 impl_numbersOf.bits11 (fun HT_ HW_ => ?_)
    generalize wr.drew = W9 at HB9 HR9 hHeld ⊢
    refine pure_ (i := 0) (N := some 44) (v := ?_) (a' := ?_) #[true, false, false, false, false, false, false, false] rfl rfl (any_of HT_.out (by kernel_rfl)) (fun _ _ _ h => h) (Or.inl ⟨by rfl, ?_⟩) ?_ ?_
    rotate_left
    ·intro w'
     go_simp
     with_reducible rfl
    rotate_left
    ·simp only [Act.put, List.setIfInBounds_toArray, List.set_cons_zero, List.set_cons_succ, i64_w, i32_w]
     rfl
    refine pure_ (i := 1) (N := some 45) (v := ?_) (a' := ?_) #[true, true, false, false, false, false, false, false] rfl rfl (any_of HT_.out (by kernel_rfl)) (fun _ _ _ h => h) (Or.inl ⟨by rfl, ?_⟩) ?_ ?_
    rotate_left
    ·intro w'
     go_simp
     with_reducible rfl
    rotate_left
    ·simp only [Act.put, List.setIfInBounds_toArray, List.set_cons_zero, List.set_cons_succ, i64_w, i32_w]
     rfl
    refine pure_ (i := 2) (N := some 46) (v := ?_) (a' := ?_) #[true, true, true, false, false, false, false, false] rfl rfl (any_of HT_.out (by kernel_rfl)) (fun _ _ _ h => h) (Or.inl ⟨by rfl, ?_⟩) ?_ ?_
    rotate_left
    ·intro w'
     go_simp
     with_reducible rfl
    rotate_left
    ·simp only [Act.put, List.setIfInBounds_toArray, List.set_cons_zero, List.set_cons_succ, i64_w, i32_w]
     rfl
    refine take_ (i := 3) (N := some 47) (v := ?_) (a' := ?_) #[true, true, true, true, false, false, false, false] rfl rfl (take_ofW HT_.out HW_.out (by kernel_rfl)) (fun _ _ _ h => h) (Or.inl ⟨by rfl, ?_⟩) hHeld ?_ ?_
    rotate_left
    ·rintro w' s0
     go_simp
     with_reducible rfl
    rotate_left
    ·simp only [Act.put, List.setIfInBounds_toArray, List.set_cons_zero, List.set_cons_succ, i64_w, i32_w]
     rfl
    refine pure_ (i := 4) (N := some 48) (v := ?_) (a' := ?_) #[true, true, true, true, true, false, false, false] rfl rfl (any_of HT_.out (by kernel_rfl)) (fun _ _ _ h => h) (Or.inl ⟨by rfl, ?_⟩) ?_ ?_
    rotate_left
    ·intro w'
     go_simp
     with_reducible rfl
    rotate_left
    ·simp only [Act.put, List.setIfInBounds_toArray, List.set_cons_zero, List.set_cons_succ, i64_w, i32_w]
     rfl
    refine pure_ (i := 5) (N := some 49) (v := ?_) (a' := ?_) #[true, true, true, true, true, true, false, false] rfl rfl (any_of HT_.out (by kernel_rfl)) (fun _ _ _ h => h) (Or.inl ⟨by rfl, ?_⟩) ?_ ?_
    rotate_left
    ·intro w'
     go_simp
     with_reducible rfl
    rotate_left
    ·simp only [Act.put, List.setIfInBounds_toArray, List.set_cons_zero, List.set_cons_succ, i64_w, i32_w]
     rfl
    refine pure_ (i := 6) (N := some 4) (v := ?_) (a' := ?_) #[true, true, true, true, true, true, true, false] rfl rfl (any_of HT_.out (by kernel_rfl)) (fun _ _ _ h => h) (Or.inl ⟨by rfl, ?_⟩) ?_ ?_
    rotate_left
    ·intro w'
     go_simp
     with_reducible rfl
    rotate_left
    ·simp only [Act.put, List.setIfInBounds_toArray, List.set_cons_zero, List.set_cons_succ, i64_w, i32_w]
     rfl
    refine pure_ (i := 7) (N := some 5) (v := ?_) (a' := ?_) #[true, true, true, true, true, true, true, true] rfl rfl (any_of HT_.out (by kernel_rfl)) (fun _ _ _ h => h) (Or.inl ⟨by rfl, ?_⟩) ?_ ?_
    rotate_left
    ·intro w'
     go_simp
     with_reducible rfl
    rotate_left
    ·simp only [Act.put, List.setIfInBounds_toArray, List.set_cons_zero, List.set_cons_succ, i64_w, i32_w]
     rfl
    refine done_ (done_of HT_.out (by kernel_rfl)) ?_
    try go_wp2
    have hd : ((L[0]?.getD ByteArray.empty).toList == a1.toList) = decide (x = a1) := by
     rw [impl_numbersOf.beq, hx]; rfl
    rw [hd]
    go_ret2
    exact ⟨_, rfl, Kd.R_lower HR9.out G0.out, HB9.out⟩

mutual
def impl_ProofSumIs.j0 : Nat → Int → List Int → Bool → List Bool → List Bool → Option (Bool)
 | 0, _, _, _, _, _ => none
 | k + 1, x1, x9, x29, x654000, x654001 => if x29 = true then (some false) else (impl_ProofSumIs.l0 k x1 0 x9 (x9.length : Int) 0 x654000 x654001)
def impl_ProofSumIs.l0 : Nat → Int → Int → List Int → Int → Int → List Bool → List Bool → Option (Bool)
 | 0, _, _, _, _, _, _, _ => none
 | k + 1, x1, x11, x30, x31, x32, x654000, x654001 => if x32 < x31 then (if 0 ≤ x32 then (if x32 < (x30.length : Int) then (if (rd x30 x32) = 0 then (some false) else ((impl_set_has.f x654000 x654001 (rd x30 x32)).bind fun t659 => (if t659 = true then (impl_ProofSumIs.l0 k x1 (wrap64 (x11 + (rd x30 x32))) x30 x31 (wrap64 (x32 + 1)) x654000 x654001) else (some false)))) else (none)) else (none)) else (some (x11 == x1))
end
def impl_ProofSumIs.f (k : Nat) (a0 : ByteArray) (a1 : Int) (a2 : ByteArray) : Option (Bool) := (impl_small.f k a0).bind fun bt646 => ((impl_numbersOf.f a2 (⟨#[115, 117, 109]⟩ : ByteArray)).bind fun bt654 => (if bt646.2.2 = true then (impl_ProofSumIs.j0 k a1 bt654.1 (!bt654.2) bt646.1 bt646.2.1) else (impl_ProofSumIs.j0 k a1 bt654.1 true bt646.1 bt646.2.1)))
theorem impl_ProofSumIs.mono_l : ∀ k, (∀ y0 y1 y2 y3 y4, LeO (impl_ProofSumIs.j0 k y0 y1 y2 y3 y4) (impl_ProofSumIs.j0 (k + 1) y0 y1 y2 y3 y4)) ∧ (∀ y0 y1 y2 y3 y4 y5 y6, LeO (impl_ProofSumIs.l0 k y0 y1 y2 y3 y4 y5 y6) (impl_ProofSumIs.l0 (k + 1) y0 y1 y2 y3 y4 y5 y6))
 | 0 => ⟨fun _ _ _ _ _ r h => by simp [impl_ProofSumIs.j0] at h, fun _ _ _ _ _ _ _ r h => by simp [impl_ProofSumIs.l0] at h⟩
 | k + 1 => by
  obtain ⟨ih0, ih1⟩ := impl_ProofSumIs.mono_l k
  refine ⟨?_, ?_⟩
  ·intro y0 y1 y2 y3 y4
   unfold impl_ProofSumIs.j0
   repeat' first
   |(with_reducible exact ih0 _ _ _ _ _)
   |(with_reducible exact ih1 _ _ _ _ _ _ _)
   |(with_reducible exact impl_small.mono _ _)
   |(with_reducible exact LeO.refl _)
   |(with_reducible exact LeO.none _)
   |(with_reducible refine LeO.ite ?_ ?_)
   |(with_reducible refine LeO.bind ?_ (fun _ => ?_))
   |exact ih0 _ _ _ _ _
   |exact ih1 _ _ _ _ _ _ _
   |exact impl_small.mono _ _
   |exact LeO.none _
   |refine LeO.ite ?_ ?_
   |refine LeO.bind ?_ (fun _ => ?_)
  ·intro y0 y1 y2 y3 y4 y5 y6
   unfold impl_ProofSumIs.l0
   repeat' first
   |(with_reducible exact ih0 _ _ _ _ _)
   |(with_reducible exact ih1 _ _ _ _ _ _ _)
   |(with_reducible exact impl_small.mono _ _)
   |(with_reducible exact LeO.refl _)
   |(with_reducible exact LeO.none _)
   |(with_reducible refine LeO.ite ?_ ?_)
   |(with_reducible refine LeO.bind ?_ (fun _ => ?_))
   |exact ih0 _ _ _ _ _
   |exact ih1 _ _ _ _ _ _ _
   |exact impl_small.mono _ _
   |exact LeO.none _
   |refine LeO.ite ?_ ?_
   |refine LeO.bind ?_ (fun _ => ?_)
theorem impl_ProofSumIs.mono : ∀ a0 a1 a2 k, LeO (impl_ProofSumIs.f k a0 a1 a2) (impl_ProofSumIs.f (k + 1) a0 a1 a2) := by
 intro a0 a1 a2 k
 obtain ⟨ih0, ih1⟩ := impl_ProofSumIs.mono_l k
 unfold impl_ProofSumIs.f
 repeat' first
   |(with_reducible exact ih0 _ _ _ _ _)
   |(with_reducible exact ih1 _ _ _ _ _ _ _)
   |(with_reducible exact impl_small.mono _ _)
   |(with_reducible exact LeO.refl _)
   |(with_reducible exact LeO.none _)
   |(with_reducible refine LeO.ite ?_ ?_)
   |(with_reducible refine LeO.bind ?_ (fun _ => ?_))
   |exact ih0 _ _ _ _ _
   |exact ih1 _ _ _ _ _ _ _
   |exact impl_small.mono _ _
   |exact LeO.none _
   |refine LeO.ite ?_ ?_
   |refine LeO.bind ?_ (fun _ => ?_)
set_option maxHeartbeats 8000000 in
set_option maxRecDepth 100000 in
theorem impl_ProofSumIs.calls (k : Nat) (a0 : ByteArray) (a1 : Int) (a2 : ByteArray) (r : Bool) (w : World) (h : impl_ProofSumIs.f k a0 a1 a2 = some r) (hG : GlobN w) :
  Calls Tryd.prog 26 #[.string a0, .int .i64 a1, .string a2] w fun e w' => e = .returned (.bool r) ∧ Below w.heap.size w w' := by
 have hu49 := Tryd.underlying49
 have HB := Aside0.mk (Below.refl w.heap.size w)
 have H : ((impl_small.f k a0).bind fun bt646 => ((impl_numbersOf.f a2 (⟨#[115, 117, 109]⟩ : ByteArray)).bind fun bt654 => (if bt646.2.2 = true then (impl_ProofSumIs.j0 k a1 bt654.1 (!bt654.2) bt646.1 bt646.2.1) else (impl_ProofSumIs.j0 k a1 bt654.1 true bt646.1 bt646.2.1)))) = some r := h
 clear h
 replace H := Option.bind_eq_some_iff.mp H
 obtain ⟨⟨t646, t649, t652⟩, A40, H⟩ := H
 replace H : ((impl_numbersOf.f a2 (⟨#[115, 117, 109]⟩ : ByteArray)).bind fun bt654 => (if t652 = true then (impl_ProofSumIs.j0 k a1 bt654.1 (!bt654.2) t646 t649) else (impl_ProofSumIs.j0 k a1 bt654.1 true t646 t649))) = some r := H
 have A4 := Aside0.mk A40
 clear A40
 replace H := Option.bind_eq_some_iff.mp H
 obtain ⟨⟨t654, t655⟩, A50, H⟩ := H
 replace H : (if t652 = true then (impl_ProofSumIs.j0 k a1 t654 (!t655) t646 t649) else (impl_ProofSumIs.j0 k a1 t654 true t646 t649)) = some r := H
 have A5 := Aside0.mk A50
 clear A50
 have HC6 := Aside0.mk H
 clear H
 go_enter Tryd.func26, Tryd.ntmps26
 go_upto_region 3 with (first | ((with_reducible refine gate_callee (f := 40) rfl ?_); refine goesL_ (some 16) rfl rfl Tryd.func40 (by kernel_rfl) rfl #[.string a0] rfl (by (try simp only [List.map_toArray, List.map_cons, List.map_nil]); first | done | rfl | (simp only [List.length_drop, List.length_take]; rfl)) ?_; (with_reducible refine (impl_small.calls k a0 t646 t649 t652 _ A4.out).mono ?_); rintro e w7 ⟨v647, v650, rfl, ho0, ho1, hb⟩; refine ⟨_, rfl, ?_⟩; have n0_ := Aside0.mk (Kd.R_lower ho0 (below_size (by repeat (first | (with_reducible first | exact HB.out | apply below_alloc | apply pw_below_drewN | apply below_drew1) | exact HB.out)))); have n1_ := Aside0.mk (Kd.R_lower ho1 (below_size (by repeat (first | (with_reducible first | exact HB.out | apply below_alloc | apply pw_below_drewN | apply below_drew1) | exact HB.out)))); have n2_ := Aside0.mk (below_step (by repeat (first | (with_reducible first | exact HB.out | apply below_alloc | apply pw_below_drewN | apply below_drew1) | exact HB.out)) hb); clear HB; have HO648 := n0_; have HO651 := n1_; have HB := n2_; clear n0_ n1_ n2_; (try clear hb); (try clear hb2); (try clear hk); (try clear hi); (try clear ho0); (try clear ho1)) | ((with_reducible refine gate_dst (N := 7) rfl ?_); refine box_event ?hg (N := 7) ?hd (cs := #[.slice none 0 0, .slice none 0 0]) (t := 49) ?hr ?_; (case hd => rfl); (case hg => rfl); (case hr => first | (go_simp; done) | (go_simp; rfl)); intro gb653 hg w8 hbox hb; have n0_ := Aside0.mk (Kd.R_below (by (with_reducible repeat (first | apply Kd.R_alloc | apply Kd.R_drewN | apply Kd.R_drew)); exact HO648.out) hb); have n1_ := Aside0.mk (Kd.R_below (by (with_reducible repeat (first | apply Kd.R_alloc | apply Kd.R_drewN | apply Kd.R_drew)); exact HO651.out) hb); have n2_ := Aside0.mk (below_step (by repeat (first | (with_reducible first | exact HB.out | apply below_alloc | apply pw_below_drewN | apply below_drew1) | exact HB.out)) hb); have n3_ := Aside0.mk (hbox); have n4_ := Aside0.mk ((by rw [hg]; exact (below_size (by repeat (first | (with_reducible first | exact HB.out | apply below_alloc | apply pw_below_drewN | apply below_drew1) | exact HB.out))) : w.heap.size ≤ gb653)); have n5_ := Aside0.mk ((by rw [hg]; exact (below_size (by repeat (first | (with_reducible first | exact HB.out | apply below_alloc | apply pw_below_drewN | apply below_drew1) | exact HB.out))) : w.heap.size ≤ gb653)); clear HO648; clear HO651; clear HB; have HO648 := n0_; have HO651 := n1_; have HB := n2_; have BK653 := n3_; have GW653 := n4_; have GE653 := n5_; clear n0_ n1_ n2_ n3_ n4_ n5_; clear hb hbox hg; obtain ⟨Ao9, co9, eo9⟩ := Kd.R_slice HO648.out; subst eo9; have hcz10_0 : w8.cell? ⟨gb653, 0, none⟩ = some (.slice none 0 0) := (blk_cell BK653.out 0).trans rfl; have hcz10_1 : w8.cell? ⟨gb653, 1, none⟩ = some (.slice none 0 0) := (blk_cell BK653.out 1).trans rfl; have hfz10_0 := blk_frozen BK653.out 0; have hfz10_1 := blk_frozen BK653.out 1; obtain ⟨Ao11, co11, eo11⟩ := Kd.R_slice HO651.out; subst eo11) | ((with_reducible refine gate_callee (f := 48) rfl ?_); refine goesL_ (some 21) rfl rfl Tryd.func48 (by kernel_rfl) rfl #[.string a2, .string (⟨#[115, 117, 109]⟩ : ByteArray)] rfl (by (try simp only [List.map_toArray, List.map_cons, List.map_nil]); first | done | rfl | (simp only [List.length_drop, List.length_take]; rfl)) ?_; (with_reducible refine (impl_numbersOf.calls a2 (⟨#[115, 117, 109]⟩ : ByteArray) t654 t655 _ A5.out (GlobN.below hG (by repeat (first | (with_reducible first | exact HB.out | apply below_alloc | apply pw_below_drewN | apply below_drew1 | refine below_set ?_ GE653.out) | exact HB.out)))).mono ?_); rintro e w12 ⟨v656, rfl, ho0, hb⟩; refine ⟨_, rfl, ?_⟩; have n0_ := Aside0.mk (Kd.R_below (by (with_reducible repeat (first | apply Kd.R_alloc | apply Kd.R_drewN | apply Kd.R_drew)); exact (Kd.R_mono (Kd.R_far (p := ⟨gb653, 1, none⟩) (Kd.R_far (p := ⟨gb653, 0, none⟩) (Kd.R_types HO648.out BK653.out (by decide)) (fun _ hk => hk.2) (.slice Ao9 t646.length co9)) (fun _ hk => hk.2) (.slice Ao11 t649.length co11)) (fun _ h_ => h_.1))) hb); have n1_ := Aside0.mk (Kd.R_below (by (with_reducible repeat (first | apply Kd.R_alloc | apply Kd.R_drewN | apply Kd.R_drew)); exact (Kd.R_mono (Kd.R_far (p := ⟨gb653, 1, none⟩) (Kd.R_far (p := ⟨gb653, 0, none⟩) (Kd.R_types HO651.out BK653.out (by decide)) (fun _ hk => hk.2) (.slice Ao9 t646.length co9)) (fun _ hk => hk.2) (.slice Ao11 t649.length co11)) (fun _ h_ => h_.1))) hb); have n2_ := Aside0.mk (Kd.R_lower ho0 (below_size (by repeat (first | (with_reducible first | exact HB.out | apply below_alloc | apply pw_below_drewN | apply below_drew1 | refine below_set ?_ GE653.out) | exact HB.out)))); have n3_ := Aside0.mk (blk_below (g := gb653) (o := .cells #[.slice Ao9 t646.length co9, .slice Ao11 t649.length co11] 49 (0, 0)) (by (with_reducible repeat (first | refine blk_drewN ?_ _ | refine blk_drew ?_ | refine blk_alloc ?_ _)); refine blk_put (cs := #[.slice Ao9 t646.length co9, .slice none 0 0]) ?_ 1 _ rfl; (with_reducible repeat (first | refine blk_drewN ?_ _ | refine blk_drew ?_ | refine blk_alloc ?_ _)); refine blk_put (cs := #[.slice none 0 0, .slice none 0 0]) ?_ 0 _ rfl; (with_reducible repeat (first | refine blk_drewN ?_ _ | refine blk_drew ?_ | refine blk_alloc ?_ _)); exact BK653.out) hb); have n4_ := Aside0.mk (below_step (by repeat (first | (with_reducible first | exact HB.out | apply below_alloc | apply pw_below_drewN | apply below_drew1 | refine below_set ?_ GE653.out) | exact HB.out)) hb); clear HO648; clear HO651; clear BK653; clear HB; have HO648 := n0_; have HO651 := n1_; have HO657 := n2_; have BK653 := n3_; have HB := n4_; clear n0_ n1_ n2_ n3_ n4_; (try clear hb); (try clear hb2); (try clear hk); (try clear hi); (try clear ho0)))
 (try simp only [Act.put, List.setIfInBounds_toArray, List.set_cons_zero, List.set_cons_succ])
 go_cut [29] (fun v29 wc => ∃ (kq : Nat) (x29_5 : Bool), v29 = .bool x29_5 ∧ Aside0 (impl_ProofSumIs.j0 kq a1 t654 x29_5 t646 t649 = some r) ∧ Aside0 (kq ≤ k) ∧ Aside0 (Kd.R (Kd.int .i64) 3 wc w.heap.size (fun _ => True) v656 t654) ∧ Aside0 (Kd.R Kd.bool 4 wc w.heap.size (fun k_ => some k_ ≠ ((.slice Ao11 t649.length co11) : Value).ownBlock) (.slice Ao9 t646.length co9) t646) ∧ Aside0 (Kd.R Kd.bool 4 wc w.heap.size (fun k_ => some k_ ≠ ((.slice Ao9 t646.length co9) : Value).ownBlock) (.slice Ao11 t649.length co11) t649) ∧ Aside0 (wc.heap[gb653]? = some (.cells #[(.slice Ao9 t646.length co9), (.slice Ao11 t649.length co11)] 49 (0, 0))) ∧ Aside0 (Below w.heap.size w wc))
 case first =>
  have H := HC6.out
  clear HC6
  by_cases c13 : t652 = true
  ·subst c13
   have H1 : (impl_ProofSumIs.j0 k a1 t654 (!t655) t646 t649) = some r := by rw [if_pos rfl] at H; exact H
   clear H
   have H := H1
   clear H1
   have H' := Aside0.mk H
   clear H
   go_wp2
   go_meet
   case rel => exact ⟨_, (!t655), (by first | rfl | (simp; done) | (simp [*]; done) | (simp [Int.tmod_eq_emod_of_nonneg]; done)), H', ⟨by first | omega | exact Nat.le_refl _⟩, ⟨by (with_reducible repeat (first | apply Kd.R_alloc | apply Kd.R_drewN | apply Kd.R_drew)); exact HO657.out⟩, ⟨by (with_reducible repeat (first | apply Kd.R_alloc | apply Kd.R_drewN | apply Kd.R_drew)); exact HO648.out⟩, ⟨by (with_reducible repeat (first | apply Kd.R_alloc | apply Kd.R_drewN | apply Kd.R_drew)); exact HO651.out⟩, ⟨by (with_reducible repeat (first | refine blk_drewN ?_ _ | refine blk_drew ?_ | refine blk_alloc ?_ _)); exact BK653.out⟩, ⟨by repeat (first | (with_reducible first | exact HB.out | apply below_alloc | apply pw_below_drewN | apply below_drew1 | refine below_set ?_ GE653.out) | exact HB.out)⟩⟩
  ·replace c13 := Bool.eq_false_iff.mpr c13
   subst c13
   have H1 : (impl_ProofSumIs.j0 k a1 t654 true t646 t649) = some r := by rw [if_neg (show ¬ (false = true) by decide)] at H; exact H
   clear H
   have H := H1
   clear H1
   have H' := Aside0.mk H
   clear H
   go_wp2
   go_meet
   case rel => exact ⟨_, (true), (by first | rfl | (simp; done) | (simp [*]; done) | (simp [Int.tmod_eq_emod_of_nonneg]; done)), H', ⟨by first | omega | exact Nat.le_refl _⟩, ⟨by (with_reducible repeat (first | apply Kd.R_alloc | apply Kd.R_drewN | apply Kd.R_drew)); exact HO657.out⟩, ⟨by (with_reducible repeat (first | apply Kd.R_alloc | apply Kd.R_drewN | apply Kd.R_drew)); exact HO648.out⟩, ⟨by (with_reducible repeat (first | apply Kd.R_alloc | apply Kd.R_drewN | apply Kd.R_drew)); exact HO651.out⟩, ⟨by (with_reducible repeat (first | refine blk_drewN ?_ _ | refine blk_drew ?_ | refine blk_alloc ?_ _)); exact BK653.out⟩, ⟨by repeat (first | (with_reducible first | exact HB.out | apply below_alloc | apply pw_below_drewN | apply below_drew1 | refine below_set ?_ GE653.out) | exact HB.out)⟩⟩
 case rest =>
  clear HC6
  try clear c1
  try clear c2
  try clear p2
  try clear c4
  try clear c13
  try clear hcz10_0
  try clear hcz10_1
  try clear hfz10_0
  try clear hfz10_1
  obtain ⟨kq, x29_5, rfl, HA, HJ5, HO_9, HO_654000, HO_654001, BK653, HB⟩ := hcut
  cases kq with
  | zero => exact absurd HA.out (by simp [impl_ProofSumIs.j0])
  | succ kj5 =>
   have H := HA.out
   clear HA
   simp only [impl_ProofSumIs.j0] at H
   by_cases c14 : x29_5 = true
   ·subst c14
    have H1 : (some false) = some r := by rw [if_pos rfl] at H; exact H
    clear H
    have H := H1
    clear H1
    obtain rfl := Option.some.inj H
    go_wp2
    go_ret
    exact ⟨by first | rfl | (simp [errW_none, errW_some] <;> rfl) | (simp [errW_none, errW_some]; exact ⟨rfl, rfl⟩) | (simp [errW_none, errW_some]; exact ⟨rfl, rfl, rfl⟩) | (simp [*, errW_none, errW_some] <;> rfl), by repeat (first | (with_reducible first | exact HB.out | apply below_alloc | apply pw_below_drewN | apply below_drew1 | refine below_set ?_ GE653.out) | exact HB.out)⟩
   ·replace c14 := Bool.eq_false_iff.mpr c14
    subst c14
    have H1 : (impl_ProofSumIs.l0 kj5 a1 0 t654 (t654.length : Int) 0 t646 t649) = some r := by rw [if_neg (show ¬ (false = true) by decide)] at H; exact H
    clear H
    have H := H1
    clear H1
    have H' := Aside0.mk H
    clear H
    obtain ⟨Ao15, co15, eo15⟩ := Kd.R_slice HO_9.out
    subst eo15
    go_wp2
    go_loopg [11, 32] kj5 (fun kq v11 v32 w' => ∃ (x11_2 : Int) (x32_2 : Int), v11 = .int .i64 x11_2 ∧ v32 = .int .i64 x32_2 ∧ Aside0 (impl_ProofSumIs.l0 kq a1 x11_2 t654 (t654.length : Int) x32_2 t646 t649 = some r) ∧ Aside0 (kq ≤ kj5) ∧ Aside0 (Kd.R (Kd.int .i64) 3 w' w.heap.size (fun _ => True) (.slice Ao15 t654.length co15) t654) ∧ Aside0 (Kd.R Kd.bool 4 w' w.heap.size (fun k_ => some k_ ≠ ((.slice Ao11 t649.length co11) : Value).ownBlock) (.slice Ao9 t646.length co9) t646) ∧ Aside0 (Kd.R Kd.bool 4 w' w.heap.size (fun k_ => some k_ ≠ ((.slice Ao9 t646.length co9) : Value).ownBlock) (.slice Ao11 t649.length co11) t649) ∧ Aside0 (w'.heap[gb653]? = some (.cells #[(.slice Ao9 t646.length co9), (.slice Ao11 t649.length co11)] 49 (0, 0))) ∧ Aside0 (Below w.heap.size w w'))
    case atStart => exact ⟨(0), (0), (by first | rfl | (simp; done) | (simp [*]; done) | (simp [Int.tmod_eq_emod_of_nonneg]; done)), (by first | rfl | (simp; done) | (simp [*]; done) | (simp [Int.tmod_eq_emod_of_nonneg]; done)), H', ⟨Nat.le_refl _⟩, ⟨by (with_reducible repeat (first | apply Kd.R_alloc | apply Kd.R_drewN | apply Kd.R_drew)); exact HO_9.out⟩, ⟨by (with_reducible repeat (first | apply Kd.R_alloc | apply Kd.R_drewN | apply Kd.R_drew)); exact HO_654000.out⟩, ⟨by (with_reducible repeat (first | apply Kd.R_alloc | apply Kd.R_drewN | apply Kd.R_drew)); exact HO_654001.out⟩, ⟨by (with_reducible repeat (first | refine blk_drewN ?_ _ | refine blk_drew ?_ | refine blk_alloc ?_ _)); exact BK653.out⟩, ⟨by repeat (first | (with_reducible first | exact HB.out | apply below_alloc | apply pw_below_drewN | apply below_drew1 | refine below_set ?_ GE653.out) | exact HB.out)⟩⟩
    case round =>
     clear H'
     try clear c1
     try clear c2
     try clear p2
     try clear c4
     try clear c13
     try clear c14
     try clear hcz10_0
     try clear hcz10_1
     try clear hfz10_0
     try clear hfz10_1
     try clear p2
     obtain ⟨x11_2, x32_2, rfl, rfl, HA, HK2, HO_30, HO_654000, HO_654001, BK653, HB⟩ := hrel
     cases gk with
     | zero => exact absurd HA.out (by simp [impl_ProofSumIs.l0])
     | succ k2 =>
      have H := HA.out
      clear HA
      simp only [impl_ProofSumIs.l0] at H
      by_cases c16 : x32_2 < (t654.length : Int)
      ·rw [if_pos c16] at H
       have c16b0 : decide (x32_2 < (t654.length : Int)) = true := decide_eq_true c16
       clear c16
       by_cases c17 : 0 ≤ x32_2
       ·rw [if_pos c17] at H
        have c17b0 : decide (0 ≤ x32_2) = true := decide_eq_true c17
        clear c17
        by_cases c18 : x32_2 < (t654.length : Int)
        ·rw [if_pos c18] at H
         have c18b0 : decide (x32_2 < (t654.length : Int)) = true := decide_eq_true c18
         clear c18
         by_cases c19 : (rd t654 x32_2) = 0
         ·rw [if_pos c19] at H
          have c19b0 : ((rd t654 x32_2) == 0) = true := beq_iff_eq.mpr c19
          have c19b1 : ((rd t654 x32_2) != 0) = false := bne_eq_false_iff_eq.mpr c19
          clear c19
          obtain rfl := Option.some.inj H
          have p658 : 0 ≤ (x32_2 : Int) := of_decide_eq_true (by first | (with_reducible assumption) | assumption)
          have q658 : x32_2 < (t654.length : Int) := of_decide_eq_true (by first | (with_reducible assumption) | assumption)
          obtain ⟨ad658, e658, hx658_0⟩ := Kd.at_int (Kd.R_reads' HO_30.out).2.2 x32_2 p658 q658
          cases e658
          replace p658 := eq_true p658
          replace q658 := eq_true q658
          go_wp2
          go_ret
          exact ⟨by first | rfl | (simp [errW_none, errW_some] <;> rfl) | (simp [errW_none, errW_some]; exact ⟨rfl, rfl⟩) | (simp [errW_none, errW_some]; exact ⟨rfl, rfl, rfl⟩) | (simp [*, errW_none, errW_some] <;> rfl), by repeat (first | (with_reducible first | exact HB.out | apply below_alloc | apply pw_below_drewN | apply below_drew1 | refine below_set ?_ GE653.out) | exact HB.out)⟩
         ·rw [if_neg c19] at H
          have c19b0 : ((rd t654 x32_2) == 0) = false := beq_eq_false_iff_ne.mpr c19
          have c19b1 : ((rd t654 x32_2) != 0) = true := bne_iff_ne.mpr c19
          replace H := Option.bind_eq_some_iff.mp H
          obtain ⟨t659, A200, H⟩ := H
          replace H : (if t659 = true then (impl_ProofSumIs.l0 k2 a1 (wrap64 (x11_2 + (rd t654 x32_2))) t654 (t654.length : Int) (wrap64 (x32_2 + 1)) t646 t649) else (some false)) = some r := H
          have A20 := Aside0.mk A200
          clear A200
          by_cases c21 : t659 = true
          ·subst c21
           have H1 : (impl_ProofSumIs.l0 k2 a1 (wrap64 (x11_2 + (rd t654 x32_2))) t654 (t654.length : Int) (wrap64 (x32_2 + 1)) t646 t649) = some r := by rw [if_pos rfl] at H; exact H
           clear H
           have H := H1
           clear H1
           have H' := Aside0.mk H
           clear H
           have p658 : 0 ≤ (x32_2 : Int) := of_decide_eq_true (by first | (with_reducible assumption) | assumption)
           have q658 : x32_2 < (t654.length : Int) := of_decide_eq_true (by first | (with_reducible assumption) | assumption)
           obtain ⟨ad658, e658, hx658_0⟩ := Kd.at_int (Kd.R_reads' HO_30.out).2.2 x32_2 p658 q658
           cases e658
           replace p658 := eq_true p658
           replace q658 := eq_true q658
           have hcz22_0 : wr.cell? ⟨gb653, 0, none⟩ = some (.slice Ao9 t646.length co9) := (blk_cell BK653.out 0).trans rfl
           have hcz22_1 : wr.cell? ⟨gb653, 1, none⟩ = some (.slice Ao11 t649.length co11) := (blk_cell BK653.out 1).trans rfl
           have hfz22_0 := blk_frozen BK653.out 0
           have hfz22_1 := blk_frozen BK653.out 1
           go_wp2_with (first | (go_at_call 58; (with_reducible refine (impl_set_has.calls _ _ t646 _ _ t649 (rd t654 x32_2) true _ ?side1 ?side2 ?side3 ?side4 A20.out).mono ?_); (case side1 => repeat (first | exact (Kd.R_reads' HO_654000.out).2.2 | (with_reducible refine Kd.C_alloc ?_ _) | (with_reducible refine Kd.C_drewN ?_ _) | (with_reducible refine Kd.C_drew ?_))); (case side2 => exact (Kd.R_reads' HO_654000.out).2.1); (case side3 => repeat (first | exact (Kd.R_reads' HO_654001.out).2.2 | (with_reducible refine Kd.C_alloc ?_ _) | (with_reducible refine Kd.C_drewN ?_ _) | (with_reducible refine Kd.C_drew ?_))); (case side4 => exact (Kd.R_reads' HO_654001.out).2.1); rintro e w23 ⟨rfl, hb⟩; have n0_ := Aside0.mk (Kd.R_below (by (with_reducible repeat (first | apply Kd.R_alloc | apply Kd.R_drewN | apply Kd.R_drew)); exact HO_30.out) hb); have n1_ := Aside0.mk (Kd.R_below (by (with_reducible repeat (first | apply Kd.R_alloc | apply Kd.R_drewN | apply Kd.R_drew)); exact HO_654000.out) hb); have n2_ := Aside0.mk (Kd.R_below (by (with_reducible repeat (first | apply Kd.R_alloc | apply Kd.R_drewN | apply Kd.R_drew)); exact HO_654001.out) hb); have n3_ := Aside0.mk (blk_below (g := gb653) (o := .cells #[.slice Ao9 t646.length co9, .slice Ao11 t649.length co11] 49 (0, 0)) (by (with_reducible repeat (first | refine blk_drewN ?_ _ | refine blk_drew ?_ | refine blk_alloc ?_ _)); exact BK653.out) hb); have n4_ := Aside0.mk (below_step (by repeat (first | (with_reducible first | exact HB.out | apply below_alloc | apply pw_below_drewN | apply below_drew1 | refine below_set ?_ GE653.out) | exact HB.out)) hb); clear HO_30; clear HO_654000; clear HO_654001; clear BK653; clear HB; have HO_30 := n0_; have HO_654000 := n1_; have HO_654001 := n2_; have BK653 := n3_; have HB := n4_; clear n0_ n1_ n2_ n3_ n4_; (try clear hb); (try clear hb2); (try clear hk); (try clear hi)))
           go_roundg k2
           case measure => have := HJ5.out; have := HK2.out; omega
           case rel => exact ⟨(wrap64 (x11_2 + (rd t654 x32_2))), (wrap64 (x32_2 + 1)), (by first | rfl | (simp; done) | (simp [*]; done) | (simp [Int.tmod_eq_emod_of_nonneg]; done)), (by first | rfl | (simp; done) | (simp [*]; done) | (simp [Int.tmod_eq_emod_of_nonneg]; done)), H', ⟨by have := HJ5.out; have := HK2.out; omega⟩, ⟨by (with_reducible repeat (first | apply Kd.R_alloc | apply Kd.R_drewN | apply Kd.R_drew)); exact HO_30.out⟩, ⟨by (with_reducible repeat (first | apply Kd.R_alloc | apply Kd.R_drewN | apply Kd.R_drew)); exact HO_654000.out⟩, ⟨by (with_reducible repeat (first | apply Kd.R_alloc | apply Kd.R_drewN | apply Kd.R_drew)); exact HO_654001.out⟩, ⟨by (with_reducible repeat (first | refine blk_drewN ?_ _ | refine blk_drew ?_ | refine blk_alloc ?_ _)); exact BK653.out⟩, ⟨by repeat (first | (with_reducible first | exact HB.out | apply below_alloc | apply pw_below_drewN | apply below_drew1 | refine below_set ?_ GE653.out) | exact HB.out)⟩⟩
          ·replace c21 := Bool.eq_false_iff.mpr c21
           subst c21
           have H1 : (some false) = some r := by rw [if_neg (show ¬ (false = true) by decide)] at H; exact H
           clear H
           have H := H1
           clear H1
           obtain rfl := Option.some.inj H
           have p658 : 0 ≤ (x32_2 : Int) := of_decide_eq_true (by first | (with_reducible assumption) | assumption)
           have q658 : x32_2 < (t654.length : Int) := of_decide_eq_true (by first | (with_reducible assumption) | assumption)
           obtain ⟨ad658, e658, hx658_0⟩ := Kd.at_int (Kd.R_reads' HO_30.out).2.2 x32_2 p658 q658
           cases e658
           replace p658 := eq_true p658
           replace q658 := eq_true q658
           have hcz24_0 : wr.cell? ⟨gb653, 0, none⟩ = some (.slice Ao9 t646.length co9) := (blk_cell BK653.out 0).trans rfl
           have hcz24_1 : wr.cell? ⟨gb653, 1, none⟩ = some (.slice Ao11 t649.length co11) := (blk_cell BK653.out 1).trans rfl
           have hfz24_0 := blk_frozen BK653.out 0
           have hfz24_1 := blk_frozen BK653.out 1
           go_wp2_with (first | (go_at_call 58; (with_reducible refine (impl_set_has.calls _ _ t646 _ _ t649 (rd t654 x32_2) false _ ?side1 ?side2 ?side3 ?side4 A20.out).mono ?_); (case side1 => repeat (first | exact (Kd.R_reads' HO_654000.out).2.2 | (with_reducible refine Kd.C_alloc ?_ _) | (with_reducible refine Kd.C_drewN ?_ _) | (with_reducible refine Kd.C_drew ?_))); (case side2 => exact (Kd.R_reads' HO_654000.out).2.1); (case side3 => repeat (first | exact (Kd.R_reads' HO_654001.out).2.2 | (with_reducible refine Kd.C_alloc ?_ _) | (with_reducible refine Kd.C_drewN ?_ _) | (with_reducible refine Kd.C_drew ?_))); (case side4 => exact (Kd.R_reads' HO_654001.out).2.1); rintro e w25 ⟨rfl, hb⟩; have n0_ := Aside0.mk (Kd.R_below (by (with_reducible repeat (first | apply Kd.R_alloc | apply Kd.R_drewN | apply Kd.R_drew)); exact HO_30.out) hb); have n1_ := Aside0.mk (Kd.R_below (by (with_reducible repeat (first | apply Kd.R_alloc | apply Kd.R_drewN | apply Kd.R_drew)); exact HO_654000.out) hb); have n2_ := Aside0.mk (Kd.R_below (by (with_reducible repeat (first | apply Kd.R_alloc | apply Kd.R_drewN | apply Kd.R_drew)); exact HO_654001.out) hb); have n3_ := Aside0.mk (blk_below (g := gb653) (o := .cells #[.slice Ao9 t646.length co9, .slice Ao11 t649.length co11] 49 (0, 0)) (by (with_reducible repeat (first | refine blk_drewN ?_ _ | refine blk_drew ?_ | refine blk_alloc ?_ _)); exact BK653.out) hb); have n4_ := Aside0.mk (below_step (by repeat (first | (with_reducible first | exact HB.out | apply below_alloc | apply pw_below_drewN | apply below_drew1 | refine below_set ?_ GE653.out) | exact HB.out)) hb); clear HO_30; clear HO_654000; clear HO_654001; clear BK653; clear HB; have HO_30 := n0_; have HO_654000 := n1_; have HO_654001 := n2_; have BK653 := n3_; have HB := n4_; clear n0_ n1_ n2_ n3_ n4_; (try clear hb); (try clear hb2); (try clear hk); (try clear hi)))
           go_ret
           exact ⟨by first | rfl | (simp [errW_none, errW_some] <;> rfl) | (simp [errW_none, errW_some]; exact ⟨rfl, rfl⟩) | (simp [errW_none, errW_some]; exact ⟨rfl, rfl, rfl⟩) | (simp [*, errW_none, errW_some] <;> rfl), by repeat (first | (with_reducible first | exact HB.out | apply below_alloc | apply pw_below_drewN | apply below_drew1 | refine below_set ?_ GE653.out) | exact HB.out)⟩
        ·rw [if_neg c18] at H
         exact absurd H (by simp)
       ·rw [if_neg c17] at H
        exact absurd H (by simp)
      ·rw [if_neg c16] at H
       have c16b0 : decide (x32_2 < (t654.length : Int)) = false := decide_eq_false c16
       clear c16
       obtain rfl := Option.some.inj H
       go_wp2
       go_ret
       exact ⟨by first | rfl | (simp [errW_none, errW_some] <;> rfl) | (simp [errW_none, errW_some]; exact ⟨rfl, rfl⟩) | (simp [errW_none, errW_some]; exact ⟨rfl, rfl, rfl⟩) | (simp [*, errW_none, errW_some] <;> rfl), by repeat (first | (with_reducible first | exact HB.out | apply below_alloc | apply pw_below_drewN | apply below_drew1 | refine below_set ?_ GE653.out) | exact HB.out)⟩


def laws_FnExactProofSumIs.f (k : Nat) (a0 : ByteArray) (a1 : Int) (a2 : ByteArray) : Option (Bool) := if (a0.size : Int) > 1048576 then (some true) else (if (a2.size : Int) > 1048576 then (some true) else ((spec_ProofSumIs.f k a0 a1 a2).bind fun t835 => ((impl_ProofSumIs.f k a0 a1 a2).bind fun t836 => (if (t836 != t835) = true then (some false) else (some true)))))
theorem laws_FnExactProofSumIs.mono : ∀ a0 a1 a2 k, LeO (laws_FnExactProofSumIs.f k a0 a1 a2) (laws_FnExactProofSumIs.f (k + 1) a0 a1 a2) := by
 intro a0 a1 a2 k
 unfold laws_FnExactProofSumIs.f
 repeat' first
   |(with_reducible exact impl_ProofSumIs.mono _ _ _ _)
   |(with_reducible exact spec_ProofSumIs.mono _ _ _ _)
   |(with_reducible exact LeO.refl _)
   |(with_reducible exact LeO.none _)
   |(with_reducible refine LeO.ite ?_ ?_)
   |(with_reducible refine LeO.bind ?_ (fun _ => ?_))
   |exact impl_ProofSumIs.mono _ _ _ _
   |exact spec_ProofSumIs.mono _ _ _ _
   |exact LeO.none _
   |refine LeO.ite ?_ ?_
   |refine LeO.bind ?_ (fun _ => ?_)
set_option maxHeartbeats 8000000 in
set_option maxRecDepth 100000 in
theorem laws_FnExactProofSumIs.calls (k : Nat) (a0 : ByteArray) (a1 : Int) (a2 : ByteArray) (r : Bool) (w : World) (h : laws_FnExactProofSumIs.f k a0 a1 a2 = some r) (hG : GlobN w) :
  Calls Tryd.prog 10 #[.string a0, .int .i64 a1, .string a2] w fun e w' => e = .returned (.bool r) ∧ Below w.heap.size w w' := by
 have HB := Aside0.mk (Below.refl w.heap.size w)
 have H : (if (a0.size : Int) > 1048576 then (some true) else (if (a2.size : Int) > 1048576 then (some true) else ((spec_ProofSumIs.f k a0 a1 a2).bind fun t835 => ((impl_ProofSumIs.f k a0 a1 a2).bind fun t836 => (if (t836 != t835) = true then (some false) else (some true)))))) = some r := h
 clear h
 by_cases c4 : (a0.size : Int) > 1048576
 ·rw [if_pos c4] at H
  have c4b0 : decide (1048576 < (a0.size : Int)) = true := decide_eq_true c4
  have c4b1 : decide (1048576 < a0.size) = true := decide_eq_true (by omega)
  clear c4
  obtain rfl := Option.some.inj H
  go_enter Tryd.func10, Tryd.ntmps10
  go_wp2
  go_ret
  exact ⟨by first | rfl | (simp [errW_none, errW_some] <;> rfl) | (simp [errW_none, errW_some]; exact ⟨rfl, rfl⟩) | (simp [errW_none, errW_some]; exact ⟨rfl, rfl, rfl⟩) | (simp [*, errW_none, errW_some] <;> rfl), by repeat (first | (with_reducible first | exact HB.out | apply below_alloc | apply pw_below_drewN | apply below_drew1) | exact HB.out)⟩
 ·rw [if_neg c4] at H
  have c4b0 : decide (1048576 < (a0.size : Int)) = false := decide_eq_false c4
  have c4b1 : decide (1048576 < a0.size) = false := decide_eq_false (by omega)
  clear c4
  by_cases c5 : (a2.size : Int) > 1048576
  ·rw [if_pos c5] at H
   have c5b0 : decide (1048576 < (a2.size : Int)) = true := decide_eq_true c5
   have c5b1 : decide (1048576 < a2.size) = true := decide_eq_true (by omega)
   clear c5
   obtain rfl := Option.some.inj H
   go_enter Tryd.func10, Tryd.ntmps10
   go_wp2
   go_ret
   exact ⟨by first | rfl | (simp [errW_none, errW_some] <;> rfl) | (simp [errW_none, errW_some]; exact ⟨rfl, rfl⟩) | (simp [errW_none, errW_some]; exact ⟨rfl, rfl, rfl⟩) | (simp [*, errW_none, errW_some] <;> rfl), by repeat (first | (with_reducible first | exact HB.out | apply below_alloc | apply pw_below_drewN | apply below_drew1) | exact HB.out)⟩
  ·rw [if_neg c5] at H
   have c5b0 : decide (1048576 < (a2.size : Int)) = false := decide_eq_false c5
   have c5b1 : decide (1048576 < a2.size) = false := decide_eq_false (by omega)
   clear c5
   replace H := Option.bind_eq_some_iff.mp H
   obtain ⟨t835, A60, H⟩ := H
   replace H : ((impl_ProofSumIs.f k a0 a1 a2).bind fun t836 => (if (t836 != t835) = true then (some false) else (some true))) = some r := H
   have A6 := Aside0.mk A60
   clear A60
   replace H := Option.bind_eq_some_iff.mp H
   obtain ⟨t836, A70, H⟩ := H
   replace H : (if (t836 != t835) = true then (some false) else (some true)) = some r := H
   have A7 := Aside0.mk A70
   clear A70
   by_cases c8 : (t836 != t835) = true
   ·rw [if_pos c8] at H
    have c8b0 : (t836 != t835) = true := c8
    (try (have c8b1 : decide (t836 = t835) = false := by simpa using c8))
    (try (have c8b2 : (t836 == t835) = false := by simpa using c8))
    (try (have c8b3 : ¬ (t836 = t835) := by simpa using c8))
    clear c8
    obtain rfl := Option.some.inj H
    go_enter Tryd.func10, Tryd.ntmps10
    go_wp2_with (first | ((with_reducible refine gate_callee (f := 31) rfl ?_); refine goesL_ (some 18) rfl rfl Tryd.func31 (by kernel_rfl) rfl #[.string a0, .int .i64 a1, .string a2] rfl (by (try simp only [List.map_toArray, List.map_cons, List.map_nil]); first | done | rfl | (simp only [List.length_drop, List.length_take]; rfl)) ?_; (with_reducible refine (spec_ProofSumIs.calls k a0 a1 a2 t835 _ A6.out).mono ?_); rintro e w9 ⟨rfl, hb⟩; refine ⟨_, rfl, ?_⟩; have n0_ := Aside0.mk (below_step (by repeat (first | (with_reducible first | exact HB.out | apply below_alloc | apply pw_below_drewN | apply below_drew1) | exact HB.out)) hb); clear HB; have HB := n0_; clear n0_; (try clear hb); (try clear hb2); (try clear hk); (try clear hi)) | ((with_reducible refine gate_callee (f := 26) rfl ?_); refine goesL_ (some 22) rfl rfl Tryd.func26 (by kernel_rfl) rfl #[.string a0, .int .i64 a1, .string a2] rfl (by (try simp only [List.map_toArray, List.map_cons, List.map_nil]); first | done | rfl | (simp only [List.length_drop, List.length_take]; rfl)) ?_; (with_reducible refine (impl_ProofSumIs.calls k a0 a1 a2 t836 _ A7.out (GlobN.below hG (by repeat (first | (with_reducible first | exact HB.out | apply below_alloc | apply pw_below_drewN | apply below_drew1) | exact HB.out)))).mono ?_); rintro e w10 ⟨rfl, hb⟩; refine ⟨_, rfl, ?_⟩; have n0_ := Aside0.mk (below_step (by repeat (first | (with_reducible first | exact HB.out | apply below_alloc | apply pw_below_drewN | apply below_drew1) | exact HB.out)) hb); clear HB; have HB := n0_; clear n0_; (try clear hb); (try clear hb2); (try clear hk); (try clear hi)))
    go_ret
    exact ⟨by first | rfl | (simp [errW_none, errW_some] <;> rfl) | (simp [errW_none, errW_some]; exact ⟨rfl, rfl⟩) | (simp [errW_none, errW_some]; exact ⟨rfl, rfl, rfl⟩) | (simp [*, errW_none, errW_some] <;> rfl), by repeat (first | (with_reducible first | exact HB.out | apply below_alloc | apply pw_below_drewN | apply below_drew1) | exact HB.out)⟩
   ·rw [if_neg c8] at H
    have c8b0 : (t836 != t835) = false := by simpa using c8
    (try (have c8b1 : decide (t836 = t835) = true := by simpa using c8))
    (try (have c8b2 : (t836 == t835) = true := by simpa using c8))
    clear c8
    obtain rfl := Option.some.inj H
    go_enter Tryd.func10, Tryd.ntmps10
    go_wp2_with (first | ((with_reducible refine gate_callee (f := 31) rfl ?_); refine goesL_ (some 18) rfl rfl Tryd.func31 (by kernel_rfl) rfl #[.string a0, .int .i64 a1, .string a2] rfl (by (try simp only [List.map_toArray, List.map_cons, List.map_nil]); first | done | rfl | (simp only [List.length_drop, List.length_take]; rfl)) ?_; (with_reducible refine (spec_ProofSumIs.calls k a0 a1 a2 t835 _ A6.out).mono ?_); rintro e w11 ⟨rfl, hb⟩; refine ⟨_, rfl, ?_⟩; have n0_ := Aside0.mk (below_step (by repeat (first | (with_reducible first | exact HB.out | apply below_alloc | apply pw_below_drewN | apply below_drew1) | exact HB.out)) hb); clear HB; have HB := n0_; clear n0_; (try clear hb); (try clear hb2); (try clear hk); (try clear hi)) | ((with_reducible refine gate_callee (f := 26) rfl ?_); refine goesL_ (some 22) rfl rfl Tryd.func26 (by kernel_rfl) rfl #[.string a0, .int .i64 a1, .string a2] rfl (by (try simp only [List.map_toArray, List.map_cons, List.map_nil]); first | done | rfl | (simp only [List.length_drop, List.length_take]; rfl)) ?_; (with_reducible refine (impl_ProofSumIs.calls k a0 a1 a2 t836 _ A7.out (GlobN.below hG (by repeat (first | (with_reducible first | exact HB.out | apply below_alloc | apply pw_below_drewN | apply below_drew1) | exact HB.out)))).mono ?_); rintro e w12 ⟨rfl, hb⟩; refine ⟨_, rfl, ?_⟩; have n0_ := Aside0.mk (below_step (by repeat (first | (with_reducible first | exact HB.out | apply below_alloc | apply pw_below_drewN | apply below_drew1) | exact HB.out)) hb); clear HB; have HB := n0_; clear n0_; (try clear hb); (try clear hb2); (try clear hk); (try clear hi)))
    go_ret
    exact ⟨by first | rfl | (simp [errW_none, errW_some] <;> rfl) | (simp [errW_none, errW_some]; exact ⟨rfl, rfl⟩) | (simp [errW_none, errW_some]; exact ⟨rfl, rfl, rfl⟩) | (simp [*, errW_none, errW_some] <;> rfl), by repeat (first | (with_reducible first | exact HB.out | apply below_alloc | apply pw_below_drewN | apply below_drew1) | exact HB.out)⟩

/-- THE ONE PURE STATEMENT of laws_FnExactProofSumIs: yours. -/
def laws_FnExactProofSumIs.Pure : Prop := ∀ (a0 : ByteArray) (a1 : Int) (a2 : ByteArray), a0.size ≤ 140737488351232 → (Lit.int .i64 a1).wf = true → a2.size ≤ 140737488351232 → ∃ k, laws_FnExactProofSumIs.f k a0 a1 a2 = some true
theorem laws_FnExactProofSumIs.walk (P : laws_FnExactProofSumIs.Pure) (a0 : ByteArray) (a1 : Int) (a2 : ByteArray) (w : World) (w0 : a0.size ≤ 140737488351232) (w1 : (Lit.int .i64 a1).wf = true) (w2 : a2.size ≤ 140737488351232) (hG : GlobN w) :
  Calls Tryd.prog 10 #[.string a0, .int .i64 a1, .string a2] w fun e w' => e = .returned (.bool true) ∧ Below w.heap.size w w' := by
 obtain ⟨k, h⟩ := P a0 a1 a2 w0 w1 w2
 refine (laws_FnExactProofSumIs.calls k a0 a1 a2 true w h hG).mono ?_
 rintro e w' ⟨rfl, hd⟩
 exact ⟨rfl, hd⟩

end Go.Proofs.YtinjblbfaijhdaaDoor.Q
