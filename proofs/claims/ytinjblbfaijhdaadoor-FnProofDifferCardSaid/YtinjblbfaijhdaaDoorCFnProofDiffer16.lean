/- The law FnProofDiffer holds for all that it draws. -/
import Derived.Lib.SplitLaws
import Derived.Lib.AtoiAll
import Derived.Test.YtinjblbfaijhdaaDoorCFnProofDiffer4
import Derived.Test.YtinjblbfaijhdaaDoorCFnProofDiffer10
import Derived.Test.YtinjblbfaijhdaaDoorCFnProofDiffer11
import Derived.Test.YtinjblbfaijhdaaDoorCFnProofDiffer13
namespace Go.Proofs.YtinjblbfaijhdaaDoor.Q
open Go.RowKit Go.Proofs.YtinjblbfaijhdaaDoorW.PrintWords Go.Proofs.YtinjblbfaijhdaaDoorW.PrintLast Go.Proofs.YtinjblbfaijhdaaDoorW.PrintMore
attribute [local go_sem] max2_int min2_int max_two min_two max_three min_three max_four min_four   -- for this text's walks alone
set_option linter.unusedVariables false
set_option linter.unusedSimpArgs false
/-- The cells of the library's variables that are read: bytealg.MaxLen, strconv.ErrSyntax, strconv.ErrRange. -/
def Cells3 (w : World) : Prop := (∃ m : Int, w.cell? ⟨2, 0, none⟩ = some (.int .i64 m)) ∧ (∃ ev : Value, w.cell? ⟨0, 0, none⟩ = some ev ∧ (ev = .nilIface ∨ ∃ te pe, ev = .iface te pe)) ∧ ∃ ev : Value, w.cell? ⟨1, 0, none⟩ = some ev ∧ (ev = .nilIface ∨ ∃ te pe, ev = .iface te pe)
def GlobN (w : World) : Prop := Glob w ∧ Cells3 w
theorem GlobN.glob {w : World} (h : GlobN w) : Glob w := h.1
theorem GlobN.below {w w' : World} (h : GlobN w) (hb : Below w.heap.size w w') : GlobN w' := by
 obtain ⟨h0, ⟨m, h1⟩, ⟨e1, h2, h3⟩, ⟨e2, h4, h5⟩⟩ := h
 exact ⟨h0.below hb, ⟨m, pw_cell_below hb h1⟩, ⟨e1, pw_cell_below hb h2, h3⟩, ⟨e2, pw_cell_below hb h4, h5⟩⟩
def impl_numbersOf.sp : ByteArray := ⟨#[32]⟩
/-- The pieces between spaces. -/
def impl_numbersOf.parts (s : ByteArray) : List ByteArray := Lib.splitB impl_numbersOf.sp 0 (Lib.countB s impl_numbersOf.sp) s
theorem impl_numbersOf.parts_length (s : ByteArray) : (impl_numbersOf.parts s).length = Lib.countB s impl_numbersOf.sp + 1 := Lib.splitB_all impl_numbersOf.sp (by decide) 0 _ s rfl
/-- A number from 0 to 99999 whose decimal signs the piece is. -/
def impl_numbersOf.num (s : ByteArray) : Option Int :=
 match Lib.atoiAll s.data.toList with
 | .ok v => if 0 ≤ v ∧ v ≤ 99999 then if (⟨(Lib.itoa v).toArray⟩ : ByteArray) = s then some v else none else none
 | _ => none
/-- The numbers of pieces, if all are. -/
def impl_numbersOf.nums : List ByteArray → Option (List Int)
 | [] => some []
 | s :: l => (impl_numbersOf.num s).bind fun v => (impl_numbersOf.nums l).bind fun r => some (v :: r)
theorem impl_numbersOf.nums_snoc (l : List ByteArray) (s : ByteArray) : impl_numbersOf.nums (l ++ [s]) = (impl_numbersOf.nums l).bind fun r => (impl_numbersOf.num s).bind fun v => some (r ++ [v]) := by
 induction l with
 | nil => simp [impl_numbersOf.nums]
 | cons a l ih =>
  simp only [List.cons_append, impl_numbersOf.nums, ih]
  cases impl_numbersOf.num a <;> cases impl_numbersOf.nums l <;> cases impl_numbersOf.num s <;> rfl
theorem impl_numbersOf.nums_bad (l : List ByteArray) (k : Nat) (h : k < l.length) (hk : impl_numbersOf.num (l.getD k ByteArray.empty) = none) : impl_numbersOf.nums l = none := by
 induction l generalizing k with
 | nil => simp at h
 | cons a l ih =>
  cases k with
  | zero =>
   have : impl_numbersOf.num a = none := by simpa using hk
   simp [impl_numbersOf.nums, this]
  | succ k =>
   have := ih k (by simpa using h) (by simpa using hk)
   simp only [impl_numbersOf.nums, this]
   cases impl_numbersOf.num a <;> rfl
theorem impl_numbersOf.take (l : List ByteArray) (k : Nat) (h : k < l.length) : l.take (k + 1) = l.take k ++ [l.getD k ByteArray.empty] := by
 rw [List.take_succ_eq_append_getElem h]; simp [List.getD, List.getElem?_eq_getElem h]
def impl_numbersOf.f (a0 : ByteArray) (a1 : ByteArray) : Option (List Int × Bool) :=
 if a0.size < 4294967281 then
  match impl_numbersOf.nums (impl_numbersOf.parts a0).tail with
  | some l => some (l, decide ((impl_numbersOf.parts a0).headD ByteArray.empty = a1))
  | none => some ([], false)
 else none
/-- strconv.Atoi at a piece that spells an int. -/
theorem impl_numbersOf.atoi_ok (s : ByteArray) (hs : s.size ≤ 281474976710656) (v : Int) (h : Lib.atoiAll s.data.toList = .ok v) (w : World) :
  Calls Tryd.prog 73 #[.string s] w fun e w' => e = .returned (.tuple #[.int .i64 v, .nilIface]) ∧ Below w.heap.size w w' := by
 refine (Tryd.strconv_Atoi_ok s (by omega) v h w).mono ?_
 rintro e w' ⟨rfl, hw⟩
 refine ⟨rfl, ?_⟩
 rcases hw with rfl | ⟨t, rfl⟩
 ·exact Below.refl _ _
 ·exact ⟨rfl, rfl, rfl, by have := Lib.bytesWorld_size w 5 t; omega, fun j hj => Lib.bytesWorld_at_old w 5 t j hj⟩
/-- strconv.Atoi at another piece. -/
theorem impl_numbersOf.atoi_bad (s : ByteArray) (hs : s.size ≤ 281474976710656) (h : ∀ v, Lib.atoiAll s.data.toList ≠ .ok v) (w : World) (hG : GlobN w) :
  Calls Tryd.prog 73 #[.string s] w fun e w' => ∃ (v : Int) (te : TypeId) (p : Value), e = .returned (.tuple #[.int .i64 v, .iface te p]) ∧ Below w.heap.size w w' := by
 obtain ⟨_, _, ⟨e1, h2, h3⟩, ⟨e2, h4, h5⟩⟩ := hG
 cases k : Lib.atoiAll s.data.toList with
 | ok v => exact absurd k (h v)
 | «syntax» =>
  refine (Tryd.strconv_Atoi_syntax s hs k e1 w h2 h3).mono ?_
  rintro e w' ⟨N, rfl, _, _, hb⟩
  exact ⟨_, _, _, rfl, hb⟩
 | range =>
  refine (Tryd.strconv_Atoi_range s hs k e2 w h4 h5).mono ?_
  rintro e w' ⟨N, rfl, _, _, hb⟩
  exact ⟨_, _, _, rfl, hb⟩
theorem impl_numbersOf.in_eq (v : Int) : impl_in.f v 0 99999 = some (decide (0 ≤ v ∧ v ≤ 99999)) := by
 unfold impl_in.f
 by_cases c1 : 0 ≤ v
 ·by_cases c2 : v ≤ 99999 <;> simp [c1, c2]
 ·simp [c1]
theorem impl_numbersOf.beq (a b : ByteArray) : (a.toList == b.toList) = decide (a = b) := by
 rw [Bool.eq_iff_iff, beq_iff_eq, decide_eq_true_iff, Lib.toList_data, Lib.toList_data]
 constructor
 ·intro h; cases a; cases b; simp only at h; congr; exact Array.toList_inj.1 h
 ·rintro rfl; rfl
theorem impl_numbersOf.part_size (s : ByteArray) (x : ByteArray) (h : x ∈ impl_numbersOf.parts s) : x.size ≤ s.size := by
 suffices all : ∀ (k : Nat) (s : ByteArray), ∀ x ∈ Lib.splitB impl_numbersOf.sp 0 k s, x.size ≤ s.size from all _ s x h
 intro k
 induction k with
 | zero =>
  intro s x hx
  simp only [Lib.splitB, List.mem_singleton] at hx
  rw [hx]; exact Nat.le_refl _
 | succ k ih =>
  intro s x hx
  unfold Lib.splitB at hx
  split at hx
  ·simp only [List.mem_singleton] at hx
   rw [hx]; exact Nat.le_refl _
  ·rcases List.mem_cons.1 hx with e | e
   ·rw [e, ByteArray.size_extract]; omega
   ·have := ih _ x e
    rw [ByteArray.size_extract] at this
    omega
def impl_numbersOf.T11 : Bool × List (List Nat × List Nat) := (true, [([], []), ([], []), ([1], [1]), ([2], [2]), ([], []), ([3, 4], [3, 4]), ([0, 0], [0]), ([5, 6, 0, 1, 2, 3, 4, 5, 6], [5])])
def impl_numbersOf.B11 : List Nat := [0, 0, 2, 6, 0, 30, 1, 127]
theorem impl_numbersOf.tab11 : rtab .any (opsOf Tryd.f48 11) = impl_numbersOf.T11 := by kernel_rfl
theorem impl_numbersOf.bits11 : waitsOk impl_numbersOf.T11.2 impl_numbersOf.B11 = true := by kernel_rfl
set_option maxHeartbeats 2000000 in
set_option maxRecDepth 100000 in
theorem impl_numbersOf.calls (a0 : ByteArray) (a1 : ByteArray) (r1 : List Int) (r2 : Bool) (w : World) (h : impl_numbersOf.f a0 a1 = some (r1, r2)) (hG : GlobN w) :
  Calls Tryd.prog 48 #[.string a0, .string a1] w fun e w' => ∃ v0_ : Value, e = .returned (.tuple #[v0_, .bool r2]) ∧ Kd.R (Kd.int .i64) 3 w' w.heap.size (fun _ => True) v0_ r1 ∧ Below w.heap.size w w' := by
 unfold impl_numbersOf.f at h
 split at h
 case isFalse => cases h
 rename_i hs
 have H := Lib.hid h
 clear h
 obtain ⟨m, hm⟩ := hG.2.1
 have C := Tryd.strings_Split a0 impl_numbersOf.sp m w hs hm (by decide)
 have hL := impl_numbersOf.parts_length a0
 rw [show (Lib.splitB impl_numbersOf.sp 0 (Lib.countB a0 impl_numbersOf.sp) a0) = impl_numbersOf.parts a0 from rfl] at C
 have hN : Lib.countB a0 impl_numbersOf.sp ≤ a0.size := Lib.countB_le impl_numbersOf.sp (by decide) a0.size a0 (Nat.le_refl _)
 generalize Lib.countB a0 impl_numbersOf.sp = N at C hL hN
 generalize hP : impl_numbersOf.parts a0 = L at C hL H
 have HL := Lib.hid hL
 have HS : Aside0 (∀ y ∈ L, y.size ≤ a0.size) := ⟨fun y hy => impl_numbersOf.part_size a0 y (by rw [hP]; exact hy)⟩
 obtain ⟨x, hx⟩ : ∃ x, x = L.getD 0 ByteArray.empty := ⟨_, rfl⟩
 have HC : Aside0 (∀ j, j < N + 1 → (w.alloc (.cells (L.map Value.string).toArray 9)).cell? ⟨w.heap.size, j, none⟩ = some (.string (L.getD j ByteArray.empty))) := ⟨fun j hj => by
  have h1 : (w.alloc (.cells (L.map Value.string).toArray 9)).heap[w.heap.size]? = some (.cells (L.map Value.string).toArray 9 (0, 0)) := blk_new w (.cells (L.map Value.string).toArray 9)
  refine (blk_cell h1 j).trans ?_
  have hj2 : j < L.length := by omega
  simp [List.getD, hj2]⟩
 have HB0 : Aside0 (Below w.heap.size w (w.alloc (.cells (L.map Value.string).toArray 9))) := ⟨(Below.refl _ w).alloc (Nat.le_refl _) _⟩
 have G0 : Aside0 (w.heap.size ≤ (w.alloc (.cells (L.map Value.string).toArray 9)).heap.size) := ⟨HB0.out.size⟩
 have G1 : Aside0 (w.heap.size < (w.alloc (.cells (L.map Value.string).toArray 9)).heap.size) := ⟨by simp⟩
 generalize w.alloc (.cells (L.map Value.string).toArray 9) = w1 at *
 have HG := Lib.hid (hG.below HB0.out)
 have hc0 := HC.out 0 (by omega)
 rw [← hx] at hc0
 clear hL hP
 go_enter Tryd.func48, Tryd.ntmps48
 go_wp2_with (go_at_call 72; refine C.mono ?_; rintro e w' ⟨rfl, hw⟩; obtain rfl : w1 = w' := hw.symm)
 clear C
 ·-- one piece: no number
  obtain rfl : N = 0 := by assumption
  have H2 : r1 = [] ∧ r2 = decide (x = a1) := by
   have hl := HL.out
   have HX := H.out
   match L, hl with
   | [x], _ =>
    simp only [List.tail_cons, impl_numbersOf.nums, Option.some.injEq, Prod.mk.injEq, List.headD_cons] at HX
    exact ⟨HX.1.symm, by rw [← HX.2, hx]; rfl⟩
  obtain ⟨rfl, rfl⟩ := H2
  go_loopw [7, 17] (fun v7 v17 w' => v7 = .slice none 0 0 ∧ v17 = .int .i64 0 ∧ w' = w1) (fun _ _ _ => 0)
  case atStart => exact ⟨rfl, rfl, rfl⟩
  case round =>
   obtain ⟨rfl, rfl, rfl⟩ := hrel
   go_wp2
   have HB9 := Aside0.mk (below_drew HB0.out)
   refine start_ (n := 8) (S := fun w' => w'.cell? ⟨w.heap.size, 0, none⟩ = some (.string x)) (ds := []) #[false, false, false, false, false, false, false, false] (by kernel_rfl) rfl rfl hc0 (fun hHeld => ?_); refine with_tabW impl_numbersOf.tab11 impl_numbersOf.bits11 (fun HT_ HW_ => ?_)
   generalize wr.drew = W9 at HB9 hHeld ⊢
   refine pure_ (i := 0) (N := some 44) (v := ?_) (a' := ?_) #[true, false, false, false, false, false, false, false] rfl rfl (any_of HT_.out (by kernel_rfl)) (fun _ _ _ h => h) (Or.inl ⟨by rfl, ?_⟩) ?_ ?_
   rotate_left
   ·intro w'
    go_simp
    with_reducible rfl
   rotate_left
   ·simp only [Act.put, List.setIfInBounds_toArray, List.set_cons_zero, List.set_cons_succ, i64_w, i32_w]
    rfl
   refine pure_ (i := 1) (N := some 45) (v := ?_) (a' := ?_) #[true, true, false, false, false, false, false, false] rfl rfl (any_of HT_.out (by kernel_rfl)) (fun _ _ _ h => h) (Or.inl ⟨by rfl, ?_⟩) ?_ ?_
   rotate_left
   ·intro w'
    go_simp
    with_reducible rfl
   rotate_left
   ·simp only [Act.put, List.setIfInBounds_toArray, List.set_cons_zero, List.set_cons_succ, i64_w, i32_w]
    rfl
   refine pure_ (i := 2) (N := some 46) (v := ?_) (a' := ?_) #[true, true, true, false, false, false, false, false] rfl rfl (any_of HT_.out (by kernel_rfl)) (fun _ _ _ h => h) (Or.inl ⟨by rfl, ?_⟩) ?_ ?_
   rotate_left
   ·intro w'
    go_simp
    with_reducible rfl
   rotate_left
   ·simp only [Act.put, List.setIfInBounds_toArray, List.set_cons_zero, List.set_cons_succ, i64_w, i32_w]
    rfl
   refine take_ (i := 3) (N := some 47) (v := ?_) (a' := ?_) #[true, true, true, true, false, false, false, false] rfl rfl (take_ofW HT_.out HW_.out (by kernel_rfl)) (fun _ _ _ h => h) (Or.inl ⟨by rfl, ?_⟩) hHeld ?_ ?_
   rotate_left
   ·rintro w' s0
    go_simp
    with_reducible rfl
   rotate_left
   ·simp only [Act.put, List.setIfInBounds_toArray, List.set_cons_zero, List.set_cons_succ, i64_w, i32_w]
    rfl
   refine pure_ (i := 4) (N := some 48) (v := ?_) (a' := ?_) #[true, true, true, true, true, false, false, false] rfl rfl (any_of HT_.out (by kernel_rfl)) (fun _ _ _ h => h) (Or.inl ⟨by rfl, ?_⟩) ?_ ?_
   rotate_left
   ·intro w'
    go_simp
    with_reducible rfl
   rotate_left
   ·simp only [Act.put, List.setIfInBounds_toArray, List.set_cons_zero, List.set_cons_succ, i64_w, i32_w]
    rfl
   refine pure_ (i := 5) (N := some 49) (v := ?_) (a' := ?_) #[true, true, true, true, true, true, false, false] rfl rfl (any_of HT_.out (by kernel_rfl)) (fun _ _ _ h => h) (Or.inl ⟨by rfl, ?_⟩) ?_ ?_
   rotate_left
   ·intro w'
    go_simp
    with_reducible rfl
   rotate_left
   ·simp only [Act.put, List.setIfInBounds_toArray, List.set_cons_zero, List.set_cons_succ, i64_w, i32_w]
    rfl
   refine pure_ (i := 6) (N := some 4) (v := ?_) (a' := ?_) #[true, true, true, true, true, true, true, false] rfl rfl (any_of HT_.out (by kernel_rfl)) (fun _ _ _ h => h) (Or.inl ⟨by rfl, ?_⟩) ?_ ?_
   rotate_left
   ·intro w'
    go_simp
    with_reducible rfl
   rotate_left
   ·simp only [Act.put, List.setIfInBounds_toArray, List.set_cons_zero, List.set_cons_succ, i64_w, i32_w]
    rfl
   refine pure_ (i := 7) (N := some 5) (v := ?_) (a' := ?_) #[true, true, true, true, true, true, true, true] rfl rfl (any_of HT_.out (by kernel_rfl)) (fun _ _ _ h => h) (Or.inl ⟨by rfl, ?_⟩) ?_ ?_
   rotate_left
   ·intro w'
    go_simp
    with_reducible rfl
   rotate_left
   ·simp only [Act.put, List.setIfInBounds_toArray, List.set_cons_zero, List.set_cons_succ, i64_w, i32_w]
    rfl
   refine done_ (done_of HT_.out (by kernel_rfl)) ?_
   try go_wp2
   have hd : ((L[0]?.getD ByteArray.empty).toList == a1.toList) = decide (x = a1) := by
    rw [impl_numbersOf.beq, hx]; rfl
   rw [hd]
   go_ret2
   exact ⟨_, rfl, Kd.R_nil _ _ _ _ _, HB9.out⟩
 ·-- several pieces
  have hN0 : N ≠ 0 := by assumption
  have hT : L.tail.length = N := by rw [List.length_tail, HL.out]; omega
  have HT := Lib.hid hT
  clear hT
  go_loopw [7, 17] (fun v7 v17 w' => ∃ (k : Nat) (acc : List Int), k ≤ N ∧ v17 = .int .i64 k ∧ acc.length ≤ k ∧ Aside0 (impl_numbersOf.nums (L.tail.take k) = some acc) ∧ Aside0 (Kd.R (Kd.int .i64) 3 w' w1.heap.size (fun _ => True) v7 acc) ∧ Aside0 (Below w1.heap.size w1 w')) (fun _ v17 _ => N - (intOf v17).toNat)
  case atStart => exact ⟨0, [], Nat.zero_le _, rfl, Nat.le_refl _, ⟨rfl⟩, ⟨Kd.R_nil _ _ _ _ _⟩, ⟨Below.refl _ _⟩⟩
  case round =>
   obtain ⟨k, acc, hk, rfl, hacc, HO, HR, HB⟩ := hrel
   by_cases hlt : k < N
   ·have hcell : wr.cell? ⟨w.heap.size, 1 + k, none⟩ = some (.string (L.getD (k + 1) ByteArray.empty)) := by
     have := HC.out (k + 1) (by omega)
     rw [show (⟨w.heap.size, k + 1, none⟩ : Addr) = ⟨w.heap.size, 1 + k, none⟩ by rw [Nat.add_comm]] at this
     exact (HB.out.cell (p := ⟨w.heap.size, 1 + k, none⟩) (by have := G1.out; simp; omega)).trans this
    have hsz : (L.getD (k + 1) ByteArray.empty).size ≤ 281474976710656 := by
     have hm : L.getD (k + 1) ByteArray.empty ∈ L := by
      have : k + 1 < L.length := by have := HL.out; omega
      simp only [List.getD, List.getElem?_eq_getElem this, Option.getD_some]
      exact List.getElem_mem this
     have := HS.out _ hm
     omega
    have hget : L.tail.getD k ByteArray.empty = L.getD (k + 1) ByteArray.empty := by simp [List.getD]
    have htk := impl_numbersOf.take L.tail k (by rw [HT.out]; exact hlt)
    rw [hget] at htk
    have hbad : impl_numbersOf.num (L.getD (k + 1) ByteArray.empty) = none → r1 = [] ∧ r2 = false := by
     intro hn
     have hX := impl_numbersOf.nums_bad L.tail k (by rw [HT.out]; exact hlt) (by rw [hget]; exact hn)
     have h2 := H.out
     rw [hX] at h2
     simp only [Option.some.injEq, Prod.mk.injEq] at h2
     exact ⟨h2.1.symm, h2.2.symm⟩
    have HBAD := Lib.hid hbad
    have HTK := Lib.hid htk
    clear hget htk hbad
    generalize L.getD (k + 1) ByteArray.empty = s at hcell hsz HBAD HTK
    have HG2 := Aside0.mk (HG.out.below HB.out)
    have HW := Aside0.mk (below_then HB0.out G0.out HB.out)
    by_cases hv : ∃ v, Lib.atoiAll s.data.toList = .ok v
    ·obtain ⟨v, hv⟩ := hv
     have C1 := Aside0.mk (impl_numbersOf.atoi_ok s hsz v hv wr)
     have hb := Lib.atoiAll_bounds hv
     by_cases hr : 0 ≤ v ∧ v ≤ 99999
     ·have C2 := Aside0.mk (fun W => impl_in.calls v 0 99999 true W (by rw [impl_numbersOf.in_eq, decide_eq_true hr]))
      have hI : strconv_Itoa_68.f v = some ⟨(Lib.itoa v).toArray⟩ := by
       unfold strconv_Itoa_68.f
       rw [if_pos (by omega)]
      have hnum : impl_numbersOf.num s = if (⟨(Lib.itoa v).toArray⟩ : ByteArray) = s then some v else none := by
       unfold impl_numbersOf.num
       rw [hv]
       simp only [if_pos hr]
      generalize (⟨(Lib.itoa v).toArray⟩ : ByteArray) = z at hI hnum
      have hbq := impl_numbersOf.beq z s
      by_cases he : z = s
      ·rw [if_pos he] at hnum
       rw [decide_eq_true he] at hbq
       have hne : (z.toList != s.toList) = false := by unfold bne; rw [hbq]; rfl
       have HN := Lib.hid (show impl_numbersOf.nums (L.tail.take (k + 1)) = some (acc ++ [v]) by rw [HTK.out, impl_numbersOf.nums_snoc, HO.out, hnum]; rfl)
       clear he hnum HBAD hb
       go_wp2_with (first | (go_at_call 73; refine C1.out.mono ?_; rintro e w2 ⟨rfl, hb2⟩; have HR2 := Aside0.mk (Kd.R_below HR.out hb2); have HB2 := Aside0.mk (below_step HB.out hb2); have HW2 := Aside0.mk (below_step HW.out hb2); have HG3 := Aside0.mk (HG2.out.below hb2); clear hb2) | (go_at_call 41; refine (C2.out _).mono ?_; rintro e w3 ⟨rfl, hd3⟩; have hb3 := Drawn0.below hd3; have HR3 := Aside0.mk (Kd.R_below HR2.out hb3); have HB3 := Aside0.mk (below_step HB2.out hb3); have HW3 := Aside0.mk (below_step HW2.out hb3); have HG4 := Aside0.mk (HG3.out.below hb3); clear hb3 hd3) | (go_at_call 68; refine (strconv_Itoa_68.calls v _ _ hI HG4.out.1).mono ?_; rintro e w4 ⟨rfl, hb4⟩; have HR4 := Aside0.mk (Kd.R_below HR3.out hb4); have HB4 := Aside0.mk (below_step HB3.out hb4); have HW4 := Aside0.mk (below_step HW3.out hb4); clear hb4) | ((with_reducible refine gate_builtin (b := .append) (xs := #[.tmp 39, .tmp 41]) rfl ?_); at_builtin; refine Kd.R_append (Kd.int .i64) (w0 := w1) w1.heap.size rfl (.tmp 39) (.tmp 41) 32 3 (.int .i64 0) 8 rfl Tryd.underlying32 info3 rfl (by decide) (by omega) u7 acc v [.int .i64 v] (fun _ => True) (fun _ => False) rfl rfl ?aP (fun _ hk => hk.elim) ?aF ?aO ?aB ?aS ?aL ?_; (case aP => exact rfl); (case aB => exact HB4.out); (case aF => exact (fun _ _ => trivial)); (case aO => exact HR4.out); (case aS => exact HB4.out.size); (case aL => omega); intro v105 w10 ho hb hg hat; have HB5 := Aside0.mk hb; have HR5 := Aside0.mk ho; clear ho hb hg hat))
       exact ⟨⟨k + 1, acc ++ [v], by omega, by go_num, by simp; omega, ⟨HN.out⟩, HR5, HB5⟩, by simp [intOf]; omega⟩
      ·rw [if_neg he] at hnum
       rw [decide_eq_false he] at hbq
       have hne : (z.toList != s.toList) = true := by unfold bne; rw [hbq]; rfl
       obtain ⟨rfl, rfl⟩ := HBAD.out hnum
       clear he hnum HBAD hb
       go_wp2_with (first | (go_at_call 73; refine C1.out.mono ?_; rintro e w2 ⟨rfl, hb2⟩; have HR2 := Aside0.mk (Kd.R_below HR.out hb2); have HB2 := Aside0.mk (below_step HB.out hb2); have HW2 := Aside0.mk (below_step HW.out hb2); have HG3 := Aside0.mk (HG2.out.below hb2); clear hb2) | (go_at_call 41; refine (C2.out _).mono ?_; rintro e w3 ⟨rfl, hd3⟩; have hb3 := Drawn0.below hd3; have HR3 := Aside0.mk (Kd.R_below HR2.out hb3); have HB3 := Aside0.mk (below_step HB2.out hb3); have HW3 := Aside0.mk (below_step HW2.out hb3); have HG4 := Aside0.mk (HG3.out.below hb3); clear hb3 hd3) | (go_at_call 68; refine (strconv_Itoa_68.calls v _ _ hI HG4.out.1).mono ?_; rintro e w4 ⟨rfl, hb4⟩; have HR4 := Aside0.mk (Kd.R_below HR3.out hb4); have HB4 := Aside0.mk (below_step HB3.out hb4); have HW4 := Aside0.mk (below_step HW3.out hb4); clear hb4))
       go_ret2
       exact ⟨_, rfl, Kd.R_nil _ _ _ _ _, HW4.out⟩
     ·have C2 := Aside0.mk (fun W => impl_in.calls v 0 99999 false W (by rw [impl_numbersOf.in_eq, decide_eq_false hr]))
      have hnum : impl_numbersOf.num s = none := by
       unfold impl_numbersOf.num
       rw [hv]
       simp only [if_neg hr]
      obtain ⟨rfl, rfl⟩ := HBAD.out hnum
      clear hnum HBAD hb
      go_wp2_with (first | (go_at_call 73; refine C1.out.mono ?_; rintro e w2 ⟨rfl, hb2⟩; have HR2 := Aside0.mk (Kd.R_below HR.out hb2); have HB2 := Aside0.mk (below_step HB.out hb2); have HW2 := Aside0.mk (below_step HW.out hb2); have HG3 := Aside0.mk (HG2.out.below hb2); clear hb2) | (go_at_call 41; refine (C2.out _).mono ?_; rintro e w3 ⟨rfl, hd3⟩; have hb3 := Drawn0.below hd3; have HR3 := Aside0.mk (Kd.R_below HR2.out hb3); have HB3 := Aside0.mk (below_step HB2.out hb3); have HW3 := Aside0.mk (below_step HW2.out hb3); have HG4 := Aside0.mk (HG3.out.below hb3); clear hb3 hd3))
      go_ret2
      exact ⟨_, rfl, Kd.R_nil _ _ _ _ _, HW3.out⟩
    ·have C1 := Aside0.mk (impl_numbersOf.atoi_bad s hsz (fun v h => hv ⟨v, h⟩) wr HG2.out)
     have hn : impl_numbersOf.num s = none := by
      unfold impl_numbersOf.num
      split
      ·rename_i v h; exact absurd ⟨v, h⟩ hv
      ·rfl
     obtain ⟨rfl, rfl⟩ := HBAD.out hn
     clear hn hv HBAD
     go_wp2_with (go_at_call 73; refine C1.out.mono ?_; rintro e w2 ⟨v, te, p, rfl, hb2⟩; have HW2 := Aside0.mk (below_step HW.out hb2); clear hb2)
     go_ret2
     exact ⟨_, rfl, Kd.R_nil _ _ _ _ _, HW2.out⟩
   ·obtain rfl : k = N := by omega
    have h2 := H.out
    have hO := HO.out
    rw [List.take_of_length_le (by rw [HT.out]; exact Nat.le_refl _)] at hO
    rw [hO] at h2
    simp only [Option.some.injEq, Prod.mk.injEq] at h2
    have hh : L.headD ByteArray.empty = x := by
     rw [hx]
     cases L with
     | nil => rfl
     | cons a l => rfl
    rw [hh] at h2
    obtain ⟨rfl, rfl⟩ := h2
    clear hO HO H
    have hc1 : wr.cell? ⟨w.heap.size, 0, none⟩ = some (.string x) := (HB.out.cell (p := ⟨w.heap.size, 0, none⟩) (by have := G1.out; simpa using this)).trans hc0
    have HW := Aside0.mk (below_then HB0.out G0.out HB.out)
    go_wp2
    clear hc0
    have hc0 := hc1
    have HB9 := Aside0.mk (below_drew HW.out)
    have HR9 := Aside0.mk (Kd.R_drew HR.out)
    refine start_ (n := 8) (S := fun w' => w'.cell? ⟨w.heap.size, 0, none⟩ = some (.string x)) (ds := []) #[false, false, false, false, false, false, false, false] (by kernel_rfl) rfl rfl hc0 (fun hHeld => ?_); refine with_tabW impl_numbersOf.tab11 impl_numbersOf.bits11 (fun HT_ HW_ => ?_)
    generalize wr.drew = W9 at HB9 HR9 hHeld ⊢
    refine pure_ (i := 0) (N := some 44) (v := ?_) (a' := ?_) #[true, false, false, false, false, false, false, false] rfl rfl (any_of HT_.out (by kernel_rfl)) (fun _ _ _ h => h) (Or.inl ⟨by rfl, ?_⟩) ?_ ?_
    rotate_left
    ·intro w'
     go_simp
     with_reducible rfl
    rotate_left
    ·simp only [Act.put, List.setIfInBounds_toArray, List.set_cons_zero, List.set_cons_succ, i64_w, i32_w]
     rfl
    refine pure_ (i := 1) (N := some 45) (v := ?_) (a' := ?_) #[true, true, false, false, false, false, false, false] rfl rfl (any_of HT_.out (by kernel_rfl)) (fun _ _ _ h => h) (Or.inl ⟨by rfl, ?_⟩) ?_ ?_
    rotate_left
    ·intro w'
     go_simp
     with_reducible rfl
    rotate_left
    ·simp only [Act.put, List.setIfInBounds_toArray, List.set_cons_zero, List.set_cons_succ, i64_w, i32_w]
     rfl
    refine pure_ (i := 2) (N := some 46) (v := ?_) (a' := ?_) #[true, true, true, false, false, false, false, false] rfl rfl (any_of HT_.out (by kernel_rfl)) (fun _ _ _ h => h) (Or.inl ⟨by rfl, ?_⟩) ?_ ?_
    rotate_left
    ·intro w'
     go_simp
     with_reducible rfl
    rotate_left
    ·simp only [Act.put, List.setIfInBounds_toArray, List.set_cons_zero, List.set_cons_succ, i64_w, i32_w]
     rfl
    refine take_ (i := 3) (N := some 47) (v := ?_) (a' := ?_) #[true, true, true, true, false, false, false, false] rfl rfl (take_ofW HT_.out HW_.out (by kernel_rfl)) (fun _ _ _ h => h) (Or.inl ⟨by rfl, ?_⟩) hHeld ?_ ?_
    rotate_left
    ·rintro w' s0
     go_simp
     with_reducible rfl
    rotate_left
    ·simp only [Act.put, List.setIfInBounds_toArray, List.set_cons_zero, List.set_cons_succ, i64_w, i32_w]
     rfl
    refine pure_ (i := 4) (N := some 48) (v := ?_) (a' := ?_) #[true, true, true, true, true, false, false, false] rfl rfl (any_of HT_.out (by kernel_rfl)) (fun _ _ _ h => h) (Or.inl ⟨by rfl, ?_⟩) ?_ ?_
    rotate_left
    ·intro w'
     go_simp
     with_reducible rfl
    rotate_left
    ·simp only [Act.put, List.setIfInBounds_toArray, List.set_cons_zero, List.set_cons_succ, i64_w, i32_w]
     rfl
    refine pure_ (i := 5) (N := some 49) (v := ?_) (a' := ?_) #[true, true, true, true, true, true, false, false] rfl rfl (any_of HT_.out (by kernel_rfl)) (fun _ _ _ h => h) (Or.inl ⟨by rfl, ?_⟩) ?_ ?_
    rotate_left
    ·intro w'
     go_simp
     with_reducible rfl
    rotate_left
    ·simp only [Act.put, List.setIfInBounds_toArray, List.set_cons_zero, List.set_cons_succ, i64_w, i32_w]
     rfl
    refine pure_ (i := 6) (N := some 4) (v := ?_) (a' := ?_) #[true, true, true, true, true, true, true, false] rfl rfl (any_of HT_.out (by kernel_rfl)) (fun _ _ _ h => h) (Or.inl ⟨by rfl, ?_⟩) ?_ ?_
    rotate_left
    ·intro w'
     go_simp
     with_reducible rfl
    rotate_left
    ·simp only [Act.put, List.setIfInBounds_toArray, List.set_cons_zero, List.set_cons_succ, i64_w, i32_w]
     rfl
    refine pure_ (i := 7) (N := some 5) (v := ?_) (a' := ?_) #[true, true, true, true, true, true, true, true] rfl rfl (any_of HT_.out (by kernel_rfl)) (fun _ _ _ h => h) (Or.inl ⟨by rfl, ?_⟩) ?_ ?_
    rotate_left
    ·intro w'
     go_simp
     with_reducible rfl
    rotate_left
    ·simp only [Act.put, List.setIfInBounds_toArray, List.set_cons_zero, List.set_cons_succ, i64_w, i32_w]
     rfl
    refine done_ (done_of HT_.out (by kernel_rfl)) ?_
    try go_wp2
    have hd : ((L[0]?.getD ByteArray.empty).toList == a1.toList) = decide (x = a1) := by
     rw [impl_numbersOf.beq, hx]; rfl
    rw [hd]
    go_ret2
    exact ⟨_, rfl, Kd.R_lower HR9.out G0.out, HB9.out⟩

def impl_ProofDifferIs.f (a0 : ByteArray) (a1 : ByteArray) (a2 : ByteArray) : Option (Bool) := (impl_setOf.f a0).bind fun bt782 => ((impl_setOf.f a1).bind fun bt790 => ((impl_numbersOf.f a2 (⟨#[102, 105, 114, 115, 116]⟩ : ByteArray)).bind fun bt798 => (if bt798.2 = true then (if bt782.2.2 = true then (if bt790.2.2 = true then (if (bt798.1.length : Int) = 1 then (if 0 < (bt798.1.length : Int) then ((impl_set_has.f bt782.1 bt782.2.1 (rd bt798.1 0)).bind fun t803 => (if t803 = true then ((impl_set_has.f bt790.1 bt790.2.1 (rd bt798.1 0)).bind fun t805 => (some (!t805))) else (some false))) else (none)) else (some false)) else (some false)) else (some false)) else ((impl_numbersOf.f a2 (⟨#[115, 101, 99, 111, 110, 100]⟩ : ByteArray)).bind fun bt806 => (if bt782.2.2 = true then (if bt790.2.2 = true then (if bt806.2 = true then (if (bt806.1.length : Int) = 1 then (if 0 < (bt806.1.length : Int) then ((impl_set_has.f bt790.1 bt790.2.1 (rd bt806.1 0)).bind fun t811 => (if t811 = true then ((impl_set_has.f bt782.1 bt782.2.1 (rd bt806.1 0)).bind fun t813 => (some (!t813))) else (some false))) else (none)) else (some false)) else (some false)) else (some false)) else (some false))))))
def impl_ProofDifferIs.T7 : Bool × List (List Nat × List Nat) := (true, [([], []), ([0], [0]), ([1], [1]), ([1, 2], [1, 2]), ([3, 1], [3]), ([4], [4]), ([4, 5], [4, 5]), ([6, 4], [6]), ([7], [7]), ([8, 7], [7, 8]), ([9, 7], [7, 9]), ([7, 10], [7, 10]), ([11, 7], [11]), ([12], [12]), ([12], [12]), ([14, 12], [12, 14]), ([15, 12], [12, 15]), ([13, 16, 12, 12], [12, 13, 16]), ([12, 17], [12, 17]), ([18, 17], [18]), ([19], [19]), ([19], [19]), ([21, 19], [19, 21]), ([22, 19], [19, 22]), ([20, 23, 19, 19], [19, 20, 23]), ([24, 19], [19, 24]), ([19, 25], [19, 25]), ([26, 24, 0, 1, 2, 3, 4, 5, 6, 7, 8, 9, 10, 11, 12, 13, 14, 15, 16, 17, 18, 19, 20, 21, 22, 23, 24, 25, 26], [26])])
def impl_ProofDifferIs.B7 : List Nat := [0, 1, 3, 7, 15, 31, 63, 127, 255, 511, 1023, 2047, 4095, 8191, 8191, 24575, 57343, 131071, 262143, 524287, 1048575, 1048575, 3145727, 7340031, 16777215, 33554431, 67108863, 134217727]
theorem impl_ProofDifferIs.tab7 : rtab .any (opsOf Tryd.f30 7) = impl_ProofDifferIs.T7 := by kernel_rfl
theorem impl_ProofDifferIs.bits7 : waitsOk impl_ProofDifferIs.T7.2 impl_ProofDifferIs.B7 = true := by kernel_rfl
set_option maxHeartbeats 8000000 in
set_option maxRecDepth 100000 in
theorem impl_ProofDifferIs.calls_yes (a0 : ByteArray) (a1 : ByteArray) (a2 : ByteArray) (r : Bool) (w : World) (h : impl_ProofDifferIs.f a0 a1 a2 = some r) (hG : GlobN w) (hv : ∃ l, impl_numbersOf.f a2 (⟨#[102, 105, 114, 115, 116]⟩ : ByteArray) = some (l, true)) :
  Calls Tryd.prog 30 #[.string a0, .string a1, .string a2] w fun e w' => e = .returned (.bool r) ∧ Below w.heap.size w w' := by
 have hu49 := Tryd.underlying49
 have HB := Aside0.mk (Below.refl w.heap.size w)
 have H : ((impl_setOf.f a0).bind fun bt782 => ((impl_setOf.f a1).bind fun bt790 => ((impl_numbersOf.f a2 (⟨#[102, 105, 114, 115, 116]⟩ : ByteArray)).bind fun bt798 => (if bt798.2 = true then (if bt782.2.2 = true then (if bt790.2.2 = true then (if (bt798.1.length : Int) = 1 then (if 0 < (bt798.1.length : Int) then ((impl_set_has.f bt782.1 bt782.2.1 (rd bt798.1 0)).bind fun t803 => (if t803 = true then ((impl_set_has.f bt790.1 bt790.2.1 (rd bt798.1 0)).bind fun t805 => (some (!t805))) else (some false))) else (none)) else (some false)) else (some false)) else (some false)) else ((impl_numbersOf.f a2 (⟨#[115, 101, 99, 111, 110, 100]⟩ : ByteArray)).bind fun bt806 => (if bt782.2.2 = true then (if bt790.2.2 = true then (if bt806.2 = true then (if (bt806.1.length : Int) = 1 then (if 0 < (bt806.1.length : Int) then ((impl_set_has.f bt790.1 bt790.2.1 (rd bt806.1 0)).bind fun t811 => (if t811 = true then ((impl_set_has.f bt782.1 bt782.2.1 (rd bt806.1 0)).bind fun t813 => (some (!t813))) else (some false))) else (none)) else (some false)) else (some false)) else (some false)) else (some false))))))) = some r := h
 clear h
 replace H := Option.bind_eq_some_iff.mp H
 obtain ⟨⟨t782, t785, t788⟩, A40, H⟩ := H
 replace H : ((impl_setOf.f a1).bind fun bt790 => ((impl_numbersOf.f a2 (⟨#[102, 105, 114, 115, 116]⟩ : ByteArray)).bind fun bt798 => (if bt798.2 = true then (if t788 = true then (if bt790.2.2 = true then (if (bt798.1.length : Int) = 1 then (if 0 < (bt798.1.length : Int) then ((impl_set_has.f t782 t785 (rd bt798.1 0)).bind fun t803 => (if t803 = true then ((impl_set_has.f bt790.1 bt790.2.1 (rd bt798.1 0)).bind fun t805 => (some (!t805))) else (some false))) else (none)) else (some false)) else (some false)) else (some false)) else ((impl_numbersOf.f a2 (⟨#[115, 101, 99, 111, 110, 100]⟩ : ByteArray)).bind fun bt806 => (if t788 = true then (if bt790.2.2 = true then (if bt806.2 = true then (if (bt806.1.length : Int) = 1 then (if 0 < (bt806.1.length : Int) then ((impl_set_has.f bt790.1 bt790.2.1 (rd bt806.1 0)).bind fun t811 => (if t811 = true then ((impl_set_has.f t782 t785 (rd bt806.1 0)).bind fun t813 => (some (!t813))) else (some false))) else (none)) else (some false)) else (some false)) else (some false)) else (some false)))))) = some r := H
 have A4 := Aside0.mk A40
 clear A40
 replace H := Option.bind_eq_some_iff.mp H
 obtain ⟨⟨t790, t793, t796⟩, A50, H⟩ := H
 replace H : ((impl_numbersOf.f a2 (⟨#[102, 105, 114, 115, 116]⟩ : ByteArray)).bind fun bt798 => (if bt798.2 = true then (if t788 = true then (if t796 = true then (if (bt798.1.length : Int) = 1 then (if 0 < (bt798.1.length : Int) then ((impl_set_has.f t782 t785 (rd bt798.1 0)).bind fun t803 => (if t803 = true then ((impl_set_has.f t790 t793 (rd bt798.1 0)).bind fun t805 => (some (!t805))) else (some false))) else (none)) else (some false)) else (some false)) else (some false)) else ((impl_numbersOf.f a2 (⟨#[115, 101, 99, 111, 110, 100]⟩ : ByteArray)).bind fun bt806 => (if t788 = true then (if t796 = true then (if bt806.2 = true then (if (bt806.1.length : Int) = 1 then (if 0 < (bt806.1.length : Int) then ((impl_set_has.f t790 t793 (rd bt806.1 0)).bind fun t811 => (if t811 = true then ((impl_set_has.f t782 t785 (rd bt806.1 0)).bind fun t813 => (some (!t813))) else (some false))) else (none)) else (some false)) else (some false)) else (some false)) else (some false))))) = some r := H
 have A5 := Aside0.mk A50
 clear A50
 replace H := Option.bind_eq_some_iff.mp H
 obtain ⟨⟨t798, t799⟩, A60, H⟩ := H
 replace H : (if t799 = true then (if t788 = true then (if t796 = true then (if (t798.length : Int) = 1 then (if 0 < (t798.length : Int) then ((impl_set_has.f t782 t785 (rd t798 0)).bind fun t803 => (if t803 = true then ((impl_set_has.f t790 t793 (rd t798 0)).bind fun t805 => (some (!t805))) else (some false))) else (none)) else (some false)) else (some false)) else (some false)) else ((impl_numbersOf.f a2 (⟨#[115, 101, 99, 111, 110, 100]⟩ : ByteArray)).bind fun bt806 => (if t788 = true then (if t796 = true then (if bt806.2 = true then (if (bt806.1.length : Int) = 1 then (if 0 < (bt806.1.length : Int) then ((impl_set_has.f t790 t793 (rd bt806.1 0)).bind fun t811 => (if t811 = true then ((impl_set_has.f t782 t785 (rd bt806.1 0)).bind fun t813 => (some (!t813))) else (some false))) else (none)) else (some false)) else (some false)) else (some false)) else (some false)))) = some r := H
 have A6 := Aside0.mk A60
 clear A60
 by_cases c7 : t799 = true
 ·subst c7
  replace H : (if t788 = true then (if t796 = true then (if (t798.length : Int) = 1 then (if 0 < (t798.length : Int) then ((impl_set_has.f t782 t785 (rd t798 0)).bind fun t803 => (if t803 = true then ((impl_set_has.f t790 t793 (rd t798 0)).bind fun t805 => (some (!t805))) else (some false))) else (none)) else (some false)) else (some false)) else (some false)) = some r := by rw [if_pos rfl] at H; exact H
  by_cases c8 : t788 = true
  ·subst c8
   replace H : (if t796 = true then (if (t798.length : Int) = 1 then (if 0 < (t798.length : Int) then ((impl_set_has.f t782 t785 (rd t798 0)).bind fun t803 => (if t803 = true then ((impl_set_has.f t790 t793 (rd t798 0)).bind fun t805 => (some (!t805))) else (some false))) else (none)) else (some false)) else (some false)) = some r := by rw [if_pos rfl] at H; exact H
   by_cases c9 : t796 = true
   ·subst c9
    replace H : (if (t798.length : Int) = 1 then (if 0 < (t798.length : Int) then ((impl_set_has.f t782 t785 (rd t798 0)).bind fun t803 => (if t803 = true then ((impl_set_has.f t790 t793 (rd t798 0)).bind fun t805 => (some (!t805))) else (some false))) else (none)) else (some false)) = some r := by rw [if_pos rfl] at H; exact H
    by_cases c10 : (t798.length : Int) = 1
    ·rw [if_pos c10] at H
     have c10b0 : ((t798.length : Int) == 1) = true := beq_iff_eq.mpr c10
     have c10b1 : ((t798.length : Int) != 1) = false := bne_eq_false_iff_eq.mpr c10
     clear c10
     by_cases c11 : 0 < (t798.length : Int)
     ·rw [if_pos c11] at H
      have c11b0 : decide (0 < (t798.length : Int)) = true := decide_eq_true c11
      have c11b1 : decide (0 < t798.length) = true := decide_eq_true (by omega)
      clear c11
      replace H := Option.bind_eq_some_iff.mp H
      obtain ⟨t803, A120, H⟩ := H
      replace H : (if t803 = true then ((impl_set_has.f t790 t793 (rd t798 0)).bind fun t805 => (some (!t805))) else (some false)) = some r := H
      have A12 := Aside0.mk A120
      clear A120
      by_cases c13 : t803 = true
      all_goals
       first
       |replace c13 := Bool.eq_false_iff.mpr c13
       |skip
       subst c13
       first
       |have H1 : ((impl_set_has.f t790 t793 (rd t798 0)).bind fun t805 => (some (!t805))) = some r := by rw [if_pos rfl] at H; exact H
       |have H1 : (some false) = some r := by rw [if_neg (show ¬ (false = true) by decide)] at H; exact H
       clear H
       have H := H1
       clear H1
       first
       |replace H := Option.bind_eq_some_iff.mp H
        obtain ⟨t805, A140, H⟩ := H
        replace H : (some (!t805)) = some r := H
        have A14 := Aside0.mk A140
        clear A140
       |skip
       obtain rfl := Option.some.inj H
       go_enter Tryd.func30, Tryd.ntmps30
       try go_wp2_with (first | ((with_reducible refine gate_callee (f := 62) rfl ?_); refine goesL_ (some 15) rfl rfl Tryd.func62 (by kernel_rfl) rfl #[.string a0] rfl (by (try simp only [List.map_toArray, List.map_cons, List.map_nil]); rfl) ?_; (with_reducible refine (impl_setOf.calls a0 t782 t785 true _ A4.out).mono ?_); rintro e w15 ⟨v783, v786, rfl, ho0, ho1, hb⟩; refine ⟨_, rfl, ?_⟩; have HO784 := Aside0.mk (Kd.R_lower ho0 (below_size HB.out)); have HO787 := Aside0.mk (Kd.R_lower ho1 (below_size HB.out)); replace HB := Aside0.mk (below_step HB.out hb); (try clear hb); (try clear ho0); (try clear ho1)) | ((with_reducible refine gate_dst (N := 7) rfl ?_); (try (refine gate_guard (by rfl) ?_; dsimp only)); refine box_event ?hg (N := 7) ?hd (cs := #[.slice none 0 0, .slice none 0 0]) (t := 49) ?hr ?_; (case hd => rfl); (case hg => rfl); (case hr => first | (go_simp; done)); intro gb789 hg w16 hbox hb; replace HO784 := Aside0.mk (Kd.R_below HO784.out hb); replace HO787 := Aside0.mk (Kd.R_below HO787.out hb); have BK789 := Aside0.mk hbox; have GW789 := Aside0.mk ((by rw [hg]; exact (below_size HB.out) : w.heap.size ≤ gb789)); have GE789 := Aside0.mk ((by rw [hg]; exact (below_size HB.out) : w.heap.size ≤ gb789)); replace HB := Aside0.mk (below_step HB.out hb); clear hb hbox hg; obtain ⟨Ao17, co17, eo17⟩ := Kd.R_slice HO784.out; subst eo17; have hcz18_0 : w16.cell? ⟨gb789, 0, none⟩ = some (.slice none 0 0) := (blk_cell BK789.out 0).trans rfl; have hcz18_1 : w16.cell? ⟨gb789, 1, none⟩ = some (.slice none 0 0) := (blk_cell BK789.out 1).trans rfl; have hfz18_0 := blk_frozen BK789.out 0; have hfz18_1 := blk_frozen BK789.out 1; obtain ⟨Ao19, co19, eo19⟩ := Kd.R_slice HO787.out; subst eo19) | ((with_reducible refine gate_callee (f := 62) rfl ?_); refine goesL_ (some 20) rfl rfl Tryd.func62 (by kernel_rfl) rfl #[.string a1] rfl (by (try simp only [List.map_toArray, List.map_cons, List.map_nil]); rfl) ?_; (with_reducible refine (impl_setOf.calls a1 t790 t793 true _ A5.out).mono ?_); rintro e w20 ⟨v791, v794, rfl, ho0, ho1, hb⟩; refine ⟨_, rfl, ?_⟩; have HO792 := Aside0.mk (Kd.R_lower (Kd.R_new' (Kd.R_new' ho0 (Kd.R_lt (by exact (Kd.R_mono (Kd.R_far (p := ⟨gb789, 1, none⟩) (Kd.R_far (p := ⟨gb789, 0, none⟩) (Kd.R_types HO784.out BK789.out (by decide)) (fun _ hk => hk.2) (.slice Ao17 t782.length co17)) (fun _ hk => hk.2) (.slice Ao19 t785.length co19)) (fun _ h_ => h_.1))))) (Kd.R_lt (by exact (Kd.R_mono (Kd.R_far (p := ⟨gb789, 1, none⟩) (Kd.R_far (p := ⟨gb789, 0, none⟩) (Kd.R_types HO787.out BK789.out (by decide)) (fun _ hk => hk.2) (.slice Ao17 t782.length co17)) (fun _ hk => hk.2) (.slice Ao19 t785.length co19)) (fun _ h_ => h_.1))))) (below_size (by repeat (first | (with_reducible first | exact HB.out | refine below_set ?_ GE789.out))))); have HO795 := Aside0.mk (Kd.R_lower (Kd.R_new' (Kd.R_new' ho1 (Kd.R_lt (by exact (Kd.R_mono (Kd.R_far (p := ⟨gb789, 1, none⟩) (Kd.R_far (p := ⟨gb789, 0, none⟩) (Kd.R_types HO784.out BK789.out (by decide)) (fun _ hk => hk.2) (.slice Ao17 t782.length co17)) (fun _ hk => hk.2) (.slice Ao19 t785.length co19)) (fun _ h_ => h_.1))))) (Kd.R_lt (by exact (Kd.R_mono (Kd.R_far (p := ⟨gb789, 1, none⟩) (Kd.R_far (p := ⟨gb789, 0, none⟩) (Kd.R_types HO787.out BK789.out (by decide)) (fun _ hk => hk.2) (.slice Ao17 t782.length co17)) (fun _ hk => hk.2) (.slice Ao19 t785.length co19)) (fun _ h_ => h_.1))))) (below_size (by repeat (first | (with_reducible first | exact HB.out | refine below_set ?_ GE789.out))))); replace HO784 := Aside0.mk (Kd.R_mono (Kd.R_told (Kd.R_told (Kd.R_old (by exact (Kd.R_mono (Kd.R_far (p := ⟨gb789, 1, none⟩) (Kd.R_far (p := ⟨gb789, 0, none⟩) (Kd.R_types HO784.out BK789.out (by decide)) (fun _ hk => hk.2) (.slice Ao17 t782.length co17)) (fun _ hk => hk.2) (.slice Ao19 t785.length co19)) (fun _ h_ => h_.1))) hb) (Kd.R_base ho0)) (Kd.R_base ho1)) (fun _ h_ => h_.1)); replace HO787 := Aside0.mk (Kd.R_mono (Kd.R_told (Kd.R_told (Kd.R_old (by exact (Kd.R_mono (Kd.R_far (p := ⟨gb789, 1, none⟩) (Kd.R_far (p := ⟨gb789, 0, none⟩) (Kd.R_types HO787.out BK789.out (by decide)) (fun _ hk => hk.2) (.slice Ao17 t782.length co17)) (fun _ hk => hk.2) (.slice Ao19 t785.length co19)) (fun _ h_ => h_.1))) hb) (Kd.R_base ho0)) (Kd.R_base ho1)) (fun _ h_ => h_.1)); replace BK789 := Aside0.mk (blk_below (g := gb789) (o := .cells #[.slice Ao17 t782.length co17, .slice Ao19 t785.length co19] 49 (0, 0)) (by refine blk_put (cs := #[.slice Ao17 t782.length co17, .slice none 0 0]) ?_ 1 _ rfl; refine blk_put (cs := #[.slice none 0 0, .slice none 0 0]) ?_ 0 _ rfl; exact BK789.out) hb); replace HB := Aside0.mk (below_step (by repeat (first | (with_reducible first | exact HB.out | refine below_set ?_ GE789.out))) hb); (try clear hb); (try clear ho0); (try clear ho1)) | ((with_reducible refine gate_dst (N := 9) rfl ?_); (try (refine gate_guard (by rfl) ?_; dsimp only)); refine box_event ?hg (N := 9) ?hd (cs := #[.slice none 0 0, .slice none 0 0]) (t := 49) ?hr ?_; (case hd => rfl); (case hg => rfl); (case hr => first | (go_simp; done)); intro gb797 hg w21 hbox hb; replace HO784 := Aside0.mk (Kd.R_below HO784.out hb); replace HO787 := Aside0.mk (Kd.R_below HO787.out hb); replace HO792 := Aside0.mk (Kd.R_below HO792.out hb); replace HO795 := Aside0.mk (Kd.R_below HO795.out hb); have BK797 := Aside0.mk hbox; have GW797 := Aside0.mk ((by rw [hg]; exact (below_size HB.out) : w.heap.size ≤ gb797)); have GE797 := Aside0.mk ((by rw [hg]; exact (below_size HB.out) : w.heap.size ≤ gb797)); replace HB := Aside0.mk (below_step HB.out hb); have NB789_797 := Aside0.mk ((by rw [hg]; exact Nat.ne_of_lt (blk_lt (g := gb789) (o := .cells #[.slice Ao17 t782.length co17, .slice Ao19 t785.length co19] 49 (0, 0)) BK789.out) : gb789 ≠ gb797)); have NB797_789 := Aside0.mk ((by rw [hg]; exact Nat.ne_of_gt (blk_lt (g := gb789) (o := .cells #[.slice Ao17 t782.length co17, .slice Ao19 t785.length co19] 49 (0, 0)) BK789.out) : gb797 ≠ gb789)); replace BK789 := Aside0.mk (blk_below (g := gb789) (o := .cells #[.slice Ao17 t782.length co17, .slice Ao19 t785.length co19] 49 (0, 0)) BK789.out hb); clear hb hbox hg; obtain ⟨Ao22, co22, eo22⟩ := Kd.R_slice HO792.out; subst eo22; have hnb23 := NB797_789.out; have hnc23 := NB789_797.out; have hcz24_0 : w21.cell? ⟨gb797, 0, none⟩ = some (.slice none 0 0) := (blk_cell BK797.out 0).trans rfl; have hcz24_1 : w21.cell? ⟨gb797, 1, none⟩ = some (.slice none 0 0) := (blk_cell BK797.out 1).trans rfl; have hfz24_0 := blk_frozen BK797.out 0; have hfz24_1 := blk_frozen BK797.out 1; obtain ⟨Ao25, co25, eo25⟩ := Kd.R_slice HO795.out; subst eo25) | ((with_reducible refine gate_callee (f := 48) rfl ?_); refine goesL_ (some 25) rfl rfl Tryd.func48 (by kernel_rfl) rfl #[.string a2, .string (⟨#[102, 105, 114, 115, 116]⟩ : ByteArray)] rfl (by (try simp only [List.map_toArray, List.map_cons, List.map_nil]); rfl) ?_; (with_reducible refine (impl_numbersOf.calls a2 (⟨#[102, 105, 114, 115, 116]⟩ : ByteArray) t798 true _ A6.out (GlobN.below hG (by repeat (first | (with_reducible first | exact HB.out | refine below_set ?_ GE797.out))))).mono ?_); rintro e w26 ⟨v800, rfl, ho0, hb⟩; refine ⟨_, rfl, ?_⟩; replace HO784 := Aside0.mk (Kd.R_below (by exact (Kd.R_mono (Kd.R_far (p := ⟨gb797, 1, none⟩) (Kd.R_far (p := ⟨gb797, 0, none⟩) (Kd.R_types HO784.out BK797.out (by decide)) (fun _ hk => hk.2) (.slice Ao22 t790.length co22)) (fun _ hk => hk.2) (.slice Ao25 t793.length co25)) (fun _ h_ => h_.1))) hb); replace HO787 := Aside0.mk (Kd.R_below (by exact (Kd.R_mono (Kd.R_far (p := ⟨gb797, 1, none⟩) (Kd.R_far (p := ⟨gb797, 0, none⟩) (Kd.R_types HO787.out BK797.out (by decide)) (fun _ hk => hk.2) (.slice Ao22 t790.length co22)) (fun _ hk => hk.2) (.slice Ao25 t793.length co25)) (fun _ h_ => h_.1))) hb); replace HO792 := Aside0.mk (Kd.R_below (by exact (Kd.R_mono (Kd.R_far (p := ⟨gb797, 1, none⟩) (Kd.R_far (p := ⟨gb797, 0, none⟩) (Kd.R_types HO792.out BK797.out (by decide)) (fun _ hk => hk.2) (.slice Ao22 t790.length co22)) (fun _ hk => hk.2) (.slice Ao25 t793.length co25)) (fun _ h_ => h_.1))) hb); replace HO795 := Aside0.mk (Kd.R_below (by exact (Kd.R_mono (Kd.R_far (p := ⟨gb797, 1, none⟩) (Kd.R_far (p := ⟨gb797, 0, none⟩) (Kd.R_types HO795.out BK797.out (by decide)) (fun _ hk => hk.2) (.slice Ao22 t790.length co22)) (fun _ hk => hk.2) (.slice Ao25 t793.length co25)) (fun _ h_ => h_.1))) hb); have HO801 := Aside0.mk (Kd.R_lower ho0 (below_size (by repeat (first | (with_reducible first | exact HB.out | refine below_set ?_ GE797.out))))); replace BK789 := Aside0.mk (blk_below (g := gb789) (o := .cells #[.slice Ao17 t782.length co17, .slice Ao19 t785.length co19] 49 (0, 0)) (by refine blk_far ?_ NB789_797.out _; refine blk_far ?_ NB789_797.out _; exact BK789.out) hb); replace BK797 := Aside0.mk (blk_below (g := gb797) (o := .cells #[.slice Ao22 t790.length co22, .slice Ao25 t793.length co25] 49 (0, 0)) (by refine blk_put (cs := #[.slice Ao22 t790.length co22, .slice none 0 0]) ?_ 1 _ rfl; refine blk_put (cs := #[.slice none 0 0, .slice none 0 0]) ?_ 0 _ rfl; exact BK797.out) hb); replace HB := Aside0.mk (below_step (by repeat (first | (with_reducible first | exact HB.out | refine below_set ?_ GE797.out))) hb); (try clear hb); (try clear ho0)))
       replace HO784 := Aside0.mk (Kd.R_drew HO784.out)
       replace HO787 := Aside0.mk (Kd.R_drew HO787.out)
       replace HO792 := Aside0.mk (Kd.R_drew HO792.out)
       replace HO795 := Aside0.mk (Kd.R_drew HO795.out)
       replace HO801 := Aside0.mk (Kd.R_drew HO801.out)
       replace BK789 := Aside0.mk (blk_drew BK789.out)
       replace BK797 := Aside0.mk (blk_drew BK797.out)
       replace HB := Aside0.mk (below_drew1 HB.out)
       obtain ⟨Ao28, co28, eo28⟩ := Kd.R_slice HO801.out
       (subst eo28)
       have p802 : 0 ≤ (0 : Int) := (by omega)
       have q802 : 0 < (t798.length : Int) := of_decide_eq_true (by (with_reducible assumption))
       obtain ⟨ad802, e802, hx802_0⟩ := Kd.at_int (Kd.R_reads' HO801.out).2.2 0 p802 q802
       cases e802
       have qi802 : (0 < t798.length) = True := eq_true (by omega)
       (try rw [show ((0 : Int)).toNat = 0 from rfl] at hx802_0)
       (try rw [Addr.add_zero'] at hx802_0)
       replace p802 := eq_true p802
       replace q802 := eq_true q802
       first
       |have p804 : 0 ≤ (0 : Int) := (by omega)
        have q804 : 0 < (t798.length : Int) := of_decide_eq_true (by (with_reducible assumption))
        obtain ⟨ad804, e804, hx804_0⟩ := Kd.at_int (Kd.R_reads' HO801.out).2.2 0 p804 q804
        obtain rfl : ad802 = ad804 := (by injection e804)
        have qi804 : (0 < t798.length) = True := eq_true (by omega)
        (try rw [show ((0 : Int)).toNat = 0 from rfl] at hx804_0)
        (try rw [Addr.add_zero'] at hx804_0)
        replace p804 := eq_true p804
        replace q804 := eq_true q804
        refine start_ (n := 28) (S := fun w' => w'.cell? ⟨gb789, 0, none⟩ = some (.slice Ao17 t782.length co17) ∧ w'.cell? ⟨gb789, 1, none⟩ = some (.slice Ao19 t785.length co19) ∧ w'.cell? ⟨gb797, 0, none⟩ = some (.slice Ao22 t790.length co22) ∧ w'.cell? ⟨gb797, 1, none⟩ = some (.slice Ao25 t793.length co25) ∧ w'.cell? ad802 = some (.int .i64 (rd t798 0)) ∧ w'.cell? ad802 = some (.int .i64 (rd t798 0))) (ds := []) #[false, false, false, false, false, false, false, false, false, false, false, false, false, false, false, false, false, false, false, false, false, false, false, false, false, false, false, false] (by kernel_rfl) rfl rfl ⟨(blk_cell BK789.out 0).trans rfl, (blk_cell BK789.out 1).trans rfl, (blk_cell BK797.out 0).trans rfl, (blk_cell BK797.out 1).trans rfl, hx802_0, hx804_0⟩ (fun hHeld => ?_); refine with_tabW impl_ProofDifferIs.tab7 impl_ProofDifferIs.bits7 (fun HT_ HW_ => ?_)
        generalize w26.drew = w27 at HO784 HO787 HO792 HO795 HO801 BK789 BK797 HB hx802_0 hx804_0 hHeld ⊢
       |refine start_ (n := 28) (S := fun w' => w'.cell? ⟨gb789, 0, none⟩ = some (.slice Ao17 t782.length co17) ∧ w'.cell? ⟨gb789, 1, none⟩ = some (.slice Ao19 t785.length co19) ∧ w'.cell? ad802 = some (.int .i64 (rd t798 0))) (ds := []) #[false, false, false, false, false, false, false, false, false, false, false, false, false, false, false, false, false, false, false, false, false, false, false, false, false, false, false, false] (by kernel_rfl) rfl rfl ⟨(blk_cell BK789.out 0).trans rfl, (blk_cell BK789.out 1).trans rfl, hx802_0⟩ (fun hHeld => ?_); refine with_tabW impl_ProofDifferIs.tab7 impl_ProofDifferIs.bits7 (fun HT_ HW_ => ?_)
        generalize w26.drew = w43 at HO784 HO787 HO792 HO795 HO801 BK789 BK797 HB hx802_0 hHeld ⊢
       refine pure_ (i := 0) (N := some 37) (v := ?_) (a' := ?_) #[true, false, false, false, false, false, false, false, false, false, false, false, false, false, false, false, false, false, false, false, false, false, false, false, false, false, false, false] rfl rfl (any_of HT_.out (by kernel_rfl)) (fun _ _ _ h => h) (Or.inl ⟨by rfl, ?_⟩) ?_ ?_
       rotate_left
       ·intro w'
        go_simp
        with_reducible rfl
       rotate_left
       ·simp only [Act.put, List.setIfInBounds_toArray, List.set_cons_zero, List.set_cons_succ, i64_w, i32_w]
        rfl
       refine pure_ (i := 1) (N := some 38) (v := ?_) (a' := ?_) #[true, true, false, false, false, false, false, false, false, false, false, false, false, false, false, false, false, false, false, false, false, false, false, false, false, false, false, false] rfl rfl (any_of HT_.out (by kernel_rfl)) (fun _ _ _ h => h) (Or.inl ⟨by rfl, ?_⟩) ?_ ?_
       rotate_left
       ·intro w'
        go_simp
        with_reducible rfl
       rotate_left
       ·simp only [Act.put, List.setIfInBounds_toArray, List.set_cons_zero, List.set_cons_succ, i64_w, i32_w]
        rfl
       refine pure_ (i := 2) (N := some 39) (v := ?_) (a' := ?_) #[true, true, true, false, false, false, false, false, false, false, false, false, false, false, false, false, false, false, false, false, false, false, false, false, false, false, false, false] rfl rfl (any_of HT_.out (by kernel_rfl)) (fun _ _ _ h => h) (Or.inl ⟨by rfl, ?_⟩) ?_ ?_
       rotate_left
       ·intro w'
        go_simp
        with_reducible rfl
       rotate_left
       ·simp only [Act.put, List.setIfInBounds_toArray, List.set_cons_zero, List.set_cons_succ, i64_w, i32_w]
        rfl
       refine pure_ (i := 3) (N := some 40) (v := ?_) (a' := ?_) #[true, true, true, true, false, false, false, false, false, false, false, false, false, false, false, false, false, false, false, false, false, false, false, false, false, false, false, false] rfl rfl (any_of HT_.out (by kernel_rfl)) (fun _ _ _ h => h) (Or.inl ⟨by rfl, ?_⟩) ?_ ?_
       rotate_left
       ·intro w'
        go_simp
        with_reducible rfl
       rotate_left
       ·simp only [Act.put, List.setIfInBounds_toArray, List.set_cons_zero, List.set_cons_succ, i64_w, i32_w]
        rfl
       refine pure_ (i := 4) (N := some 41) (v := ?_) (a' := ?_) #[true, true, true, true, true, false, false, false, false, false, false, false, false, false, false, false, false, false, false, false, false, false, false, false, false, false, false, false] rfl rfl (any_of HT_.out (by kernel_rfl)) (fun _ _ _ h => h) (Or.inl ⟨by rfl, ?_⟩) ?_ ?_
       rotate_left
       ·intro w'
        go_simp
        with_reducible rfl
       rotate_left
       ·simp only [Act.put, List.setIfInBounds_toArray, List.set_cons_zero, List.set_cons_succ, i64_w, i32_w]
        rfl
       refine pure_ (i := 5) (N := some 42) (v := ?_) (a' := ?_) #[true, true, true, true, true, true, false, false, false, false, false, false, false, false, false, false, false, false, false, false, false, false, false, false, false, false, false, false] rfl rfl (any_of HT_.out (by kernel_rfl)) (fun _ _ _ h => h) (Or.inl ⟨by rfl, ?_⟩) ?_ ?_
       rotate_left
       ·intro w'
        go_simp
        with_reducible rfl
       rotate_left
       ·simp only [Act.put, List.setIfInBounds_toArray, List.set_cons_zero, List.set_cons_succ, i64_w, i32_w]
        rfl
       refine pure_ (i := 6) (N := some 43) (v := ?_) (a' := ?_) #[true, true, true, true, true, true, true, false, false, false, false, false, false, false, false, false, false, false, false, false, false, false, false, false, false, false, false, false] rfl rfl (any_of HT_.out (by kernel_rfl)) (fun _ _ _ h => h) (Or.inl ⟨by rfl, ?_⟩) ?_ ?_
       rotate_left
       ·intro w'
        go_simp
        with_reducible rfl
       rotate_left
       ·simp only [Act.put, List.setIfInBounds_toArray, List.set_cons_zero, List.set_cons_succ, i64_w, i32_w]
        rfl
       refine pure_ (i := 7) (N := some 44) (v := ?_) (a' := ?_) #[true, true, true, true, true, true, true, true, false, false, false, false, false, false, false, false, false, false, false, false, false, false, false, false, false, false, false, false] rfl rfl (any_of HT_.out (by kernel_rfl)) (fun _ _ _ h => h) (Or.inl ⟨by rfl, ?_⟩) ?_ ?_
       rotate_left
       ·intro w'
        go_simp
        with_reducible rfl
       rotate_left
       ·simp only [Act.put, List.setIfInBounds_toArray, List.set_cons_zero, List.set_cons_succ, i64_w, i32_w]
        rfl
       refine pure_ (i := 8) (N := some 45) (v := ?_) (a' := ?_) #[true, true, true, true, true, true, true, true, true, false, false, false, false, false, false, false, false, false, false, false, false, false, false, false, false, false, false, false] rfl rfl (any_of HT_.out (by kernel_rfl)) (fun _ _ _ h => h) (Or.inl ⟨by rfl, ?_⟩) ?_ ?_
       rotate_left
       ·intro w'
        go_simp
        with_reducible rfl
       rotate_left
       ·simp only [Act.put, List.setIfInBounds_toArray, List.set_cons_zero, List.set_cons_succ, i64_w, i32_w]
        rfl
       refine pure_ (i := 9) (N := some 46) (v := ?_) (a' := ?_) #[true, true, true, true, true, true, true, true, true, true, false, false, false, false, false, false, false, false, false, false, false, false, false, false, false, false, false, false] rfl rfl (any_of HT_.out (by kernel_rfl)) (fun _ _ _ h => h) (Or.inl ⟨by rfl, ?_⟩) ?_ ?_
       rotate_left
       ·intro w'
        go_simp
        with_reducible rfl
       rotate_left
       ·simp only [Act.put, List.setIfInBounds_toArray, List.set_cons_zero, List.set_cons_succ, i64_w, i32_w]
        rfl
       refine pure_ (i := 10) (N := some 47) (v := ?_) (a' := ?_) #[true, true, true, true, true, true, true, true, true, true, true, false, false, false, false, false, false, false, false, false, false, false, false, false, false, false, false, false] rfl rfl (any_of HT_.out (by kernel_rfl)) (fun _ _ _ h => h) (Or.inl ⟨by rfl, ?_⟩) ?_ ?_
       rotate_left
       ·intro w'
        go_simp
        with_reducible rfl
       rotate_left
       ·simp only [Act.put, List.setIfInBounds_toArray, List.set_cons_zero, List.set_cons_succ, i64_w, i32_w]
        rfl
       refine pure_ (i := 11) (N := some 48) (v := ?_) (a' := ?_) #[true, true, true, true, true, true, true, true, true, true, true, true, false, false, false, false, false, false, false, false, false, false, false, false, false, false, false, false] rfl rfl (any_of HT_.out (by kernel_rfl)) (fun _ _ _ h => h) (Or.inl ⟨by rfl, ?_⟩) ?_ ?_
       rotate_left
       ·intro w'
        go_simp
        with_reducible rfl
       rotate_left
       ·simp only [Act.put, List.setIfInBounds_toArray, List.set_cons_zero, List.set_cons_succ, i64_w, i32_w]
        rfl
       refine pure_ (i := 12) (N := some 49) (v := ?_) (a' := ?_) #[true, true, true, true, true, true, true, true, true, true, true, true, true, false, false, false, false, false, false, false, false, false, false, false, false, false, false, false] rfl rfl (any_of HT_.out (by kernel_rfl)) (fun _ _ _ h => h) (Or.inl ⟨by rfl, ?_⟩) ?_ ?_
       rotate_left
       ·intro w'
        go_simp
        with_reducible rfl
       rotate_left
       ·simp only [Act.put, List.setIfInBounds_toArray, List.set_cons_zero, List.set_cons_succ, i64_w, i32_w]
        rfl
       refine pure_ (i := 14) (N := some 51) (v := ?_) (a' := ?_) #[true, true, true, true, true, true, true, true, true, true, true, true, true, false, true, false, false, false, false, false, false, false, false, false, false, false, false, false] rfl rfl (any_of HT_.out (by kernel_rfl)) (fun _ _ _ h => h) (Or.inl ⟨by rfl, ?_⟩) ?_ ?_
       rotate_left
       ·intro w'
        go_simp
        with_reducible rfl
       rotate_left
       ·simp only [Act.put, List.setIfInBounds_toArray, List.set_cons_zero, List.set_cons_succ, i64_w, i32_w]
        rfl
       refine pure_ (i := 15) (N := some 52) (v := ?_) (a' := ?_) #[true, true, true, true, true, true, true, true, true, true, true, true, true, false, true, true, false, false, false, false, false, false, false, false, false, false, false, false] rfl rfl (any_of HT_.out (by kernel_rfl)) (fun _ _ _ h => h) (Or.inl ⟨by rfl, ?_⟩) ?_ ?_
       rotate_left
       ·intro w'
        go_simp
        with_reducible rfl
       rotate_left
       ·simp only [Act.put, List.setIfInBounds_toArray, List.set_cons_zero, List.set_cons_succ, i64_w, i32_w]
        rfl
       refine take_ (i := 13) (N := some 50) (v := ?_) (a' := ?_) #[true, true, true, true, true, true, true, true, true, true, true, true, true, true, true, true, false, false, false, false, false, false, false, false, false, false, false, false] rfl rfl (take_ofW HT_.out HW_.out (by kernel_rfl)) (fun _ _ _ h => h) (Or.inl ⟨by rfl, ?_⟩) hHeld ?_ ?_
       rotate_left
       first
       |·rintro w' ⟨s0, s1, s2, s3, s4, s5⟩
         go_simp
         with_reducible rfl
       |·rintro w' ⟨s0, s1, s2⟩
         go_simp
         with_reducible rfl
       rotate_left
       ·simp only [Act.put, List.setIfInBounds_toArray, List.set_cons_zero, List.set_cons_succ, i64_w, i32_w]
        rfl
       refine take_ (i := 16) (N := some 53) (v := ?_) (a' := ?_) #[true, true, true, true, true, true, true, true, true, true, true, true, true, true, true, true, true, false, false, false, false, false, false, false, false, false, false, false] rfl rfl (take_ofW HT_.out HW_.out (by kernel_rfl)) (fun _ _ _ h => h) (Or.inl ⟨by rfl, ?_⟩) hHeld ?_ ?_
       rotate_left
       first
       |·rintro w' ⟨s0, s1, s2, s3, s4, s5⟩
         go_simp
         with_reducible rfl
       |·rintro w' ⟨s0, s1, s2⟩
         go_simp
         with_reducible rfl
       rotate_left
       ·simp only [Act.put, List.setIfInBounds_toArray, List.set_cons_zero, List.set_cons_succ, i64_w, i32_w]
        rfl
       refine one_ (i := 17) (N := some 54) #[true, true, true, true, true, true, true, true, true, true, true, true, true, true, true, true, true, true, false, false, false, false, false, false, false, false, false, false] rfl rfl (one_of HT_.out (by kernel_rfl)) (by decide) (fun K hK => ?_)
       refine goes_ Tryd.func58 (by kernel_rfl) rfl #[.agg #[.slice Ao17 t782.length co17, .slice Ao19 t785.length co19], .int .i64 (rd t798 0)] (by rfl) rfl rfl (by (try simp only [List.map_toArray, List.map_cons, List.map_nil]); rfl) ?_
       first
       |with_reducible refine (impl_set_has.calls _ _ t782 _ _ t785 (rd t798 0) true _ ?side1 ?side2 ?side3 ?side4 A12.out).mono ?_
       |with_reducible refine (impl_set_has.calls _ _ t782 _ _ t785 (rd t798 0) false _ ?side1 ?side2 ?side3 ?side4 A12.out).mono ?_
       (case side1 => repeat (exact (Kd.R_reads' HO784.out).2.2))
       (case side2 => exact (Kd.R_reads' HO784.out).2.1)
       (case side3 => repeat (exact (Kd.R_reads' HO787.out).2.2))
       (case side4 => exact (Kd.R_reads' HO787.out).2.1)
       rintro e w29 ⟨rfl, hb⟩
       first
       |have HS4_ := (hb.cell (World.block_lt_of_cell? _ _ (hHeld.2.2.2.2.1))).trans (hHeld.2.2.2.2.1)
        have HS5_ := (hb.cell (World.block_lt_of_cell? _ _ (hHeld.2.2.2.2.2))).trans (hHeld.2.2.2.2.2)
       |have HS2_ := (hb.cell (World.block_lt_of_cell? _ _ (hHeld.2.2))).trans (hHeld.2.2)
       refine ⟨_, rfl, ?_⟩
       replace HO784 := Aside0.mk (Kd.R_below HO784.out hb)
       replace HO787 := Aside0.mk (Kd.R_below HO787.out hb)
       replace HO792 := Aside0.mk (Kd.R_below HO792.out hb)
       replace HO795 := Aside0.mk (Kd.R_below HO795.out hb)
       replace HO801 := Aside0.mk (Kd.R_below HO801.out hb)
       replace BK789 := Aside0.mk (blk_below (g := gb789) (o := .cells #[.slice Ao17 t782.length co17, .slice Ao19 t785.length co19] 49 (0, 0)) BK789.out hb)
       replace BK797 := Aside0.mk (blk_below (g := gb797) (o := .cells #[.slice Ao22 t790.length co22, .slice Ao25 t793.length co25] 49 (0, 0)) BK797.out hb)
       replace HB := Aside0.mk (below_step HB.out hb)
       (try clear hb)
       first
       |refine hK.out _ _ ⟨(blk_cell BK789.out 0).trans rfl, (blk_cell BK789.out 1).trans rfl, (blk_cell BK797.out 0).trans rfl, (blk_cell BK797.out 1).trans rfl, HS4_, HS5_⟩ (fun hHeld => ?_)
       |refine hK.out _ _ ⟨(blk_cell BK789.out 0).trans rfl, (blk_cell BK789.out 1).trans rfl, HS2_⟩ (fun hHeld => ?_)
       clear hK K
       refine norm_ (a' := ?_) ?_ ?_
       rotate_left
       ·show Act.put _ (some 54) _ = _
        simp only [Act.put, List.setIfInBounds_toArray, List.set_cons_zero, List.set_cons_succ, i64_w, i32_w]
        rfl
       refine pure_ (i := 18) (N := some 55) (v := ?_) (a' := ?_) #[true, true, true, true, true, true, true, true, true, true, true, true, true, true, true, true, true, true, true, false, false, false, false, false, false, false, false, false] rfl rfl (any_of HT_.out (by kernel_rfl)) (fun _ _ _ h => h) (Or.inl ⟨by rfl, ?_⟩) ?_ ?_
       rotate_left
       ·intro w'
        go_simp
        with_reducible rfl
       rotate_left
       ·simp only [Act.put, List.setIfInBounds_toArray, List.set_cons_zero, List.set_cons_succ, i64_w, i32_w]
        rfl
       refine pure_ (i := 19) (N := some 56) (v := ?_) (a' := ?_) #[true, true, true, true, true, true, true, true, true, true, true, true, true, true, true, true, true, true, true, true, false, false, false, false, false, false, false, false] rfl rfl (any_of HT_.out (by kernel_rfl)) (fun _ _ _ h => h) (Or.inl ⟨by rfl, ?_⟩) ?_ ?_
       rotate_left
       ·intro w'
        go_simp
        with_reducible rfl
       rotate_left
       ·simp only [Act.put, List.setIfInBounds_toArray, List.set_cons_zero, List.set_cons_succ, i64_w, i32_w]
        rfl
       first
       |refine pure_ (i := 21) (N := some 58) (v := ?_) (a' := ?_) #[true, true, true, true, true, true, true, true, true, true, true, true, true, true, true, true, true, true, true, true, false, true, false, false, false, false, false, false] rfl rfl (any_of HT_.out (by kernel_rfl)) (fun _ _ _ h => h) (Or.inl ⟨by rfl, ?_⟩) ?_ ?_
        rotate_left
        ·intro w'
         go_simp
         with_reducible rfl
       |refine pure_ (i := 20) (N := some 57) (v := undef) (a' := ?_) #[true, true, true, true, true, true, true, true, true, true, true, true, true, true, true, true, true, true, true, true, true, false, false, false, false, false, false, false] rfl rfl (any_of HT_.out (by kernel_rfl)) (fun _ _ _ h => h) (Or.inr ⟨by rfl, rfl⟩) ?_ ?_
       rotate_left
       ·simp only [Act.put, List.setIfInBounds_toArray, List.set_cons_zero, List.set_cons_succ, i64_w, i32_w]
        rfl
       first
       |refine pure_ (i := 22) (N := some 59) (v := ?_) (a' := ?_) #[true, true, true, true, true, true, true, true, true, true, true, true, true, true, true, true, true, true, true, true, false, true, true, false, false, false, false, false] rfl rfl (any_of HT_.out (by kernel_rfl)) (fun _ _ _ h => h) (Or.inl ⟨by rfl, ?_⟩) ?_ ?_
        rotate_left
        ·intro w'
         go_simp
         with_reducible rfl
       |refine pure_ (i := 21) (N := some 58) (v := undef) (a' := ?_) #[true, true, true, true, true, true, true, true, true, true, true, true, true, true, true, true, true, true, true, true, true, true, false, false, false, false, false, false] rfl rfl (any_of HT_.out (by kernel_rfl)) (fun _ _ _ h => h) (Or.inr ⟨by rfl, rfl⟩) ?_ ?_
       rotate_left
       ·simp only [Act.put, List.setIfInBounds_toArray, List.set_cons_zero, List.set_cons_succ, i64_w, i32_w]
        rfl
       first
       |refine take_ (i := 20) (N := some 57) (v := ?_) (a' := ?_) #[true, true, true, true, true, true, true, true, true, true, true, true, true, true, true, true, true, true, true, true, true, true, true, false, false, false, false, false] rfl rfl (take_ofW HT_.out HW_.out (by kernel_rfl)) (fun _ _ _ h => h) (Or.inl ⟨by rfl, ?_⟩) hHeld ?_ ?_
        rotate_left
        ·rintro w' ⟨s0, s1, s2, s3, s4, s5⟩
         go_simp
         with_reducible rfl
       |refine pure_ (i := 22) (N := some 59) (v := undef) (a' := ?_) #[true, true, true, true, true, true, true, true, true, true, true, true, true, true, true, true, true, true, true, true, true, true, true, false, false, false, false, false] rfl rfl (any_of HT_.out (by kernel_rfl)) (fun _ _ _ h => h) (Or.inr ⟨by rfl, rfl⟩) ?_ ?_
       rotate_left
       ·simp only [Act.put, List.setIfInBounds_toArray, List.set_cons_zero, List.set_cons_succ, i64_w, i32_w]
        rfl
       first
       |refine take_ (i := 23) (N := some 60) (v := ?_) (a' := ?_) #[true, true, true, true, true, true, true, true, true, true, true, true, true, true, true, true, true, true, true, true, true, true, true, true, false, false, false, false] rfl rfl (take_ofW HT_.out HW_.out (by kernel_rfl)) (fun _ _ _ h => h) (Or.inl ⟨by rfl, ?_⟩) hHeld ?_ ?_
        rotate_left
        ·rintro w' ⟨s0, s1, s2, s3, s4, s5⟩
         go_simp
         with_reducible rfl
       |refine pure_ (i := 23) (N := some 60) (v := undef) (a' := ?_) #[true, true, true, true, true, true, true, true, true, true, true, true, true, true, true, true, true, true, true, true, true, true, true, true, false, false, false, false] rfl rfl (any_of HT_.out (by kernel_rfl)) (fun _ _ _ h => h) (Or.inr ⟨by rfl, rfl⟩) ?_ ?_
       rotate_left
       ·simp only [Act.put, List.setIfInBounds_toArray, List.set_cons_zero, List.set_cons_succ, i64_w, i32_w]
        rfl
       first
       |refine one_ (i := 24) (N := some 61) #[true, true, true, true, true, true, true, true, true, true, true, true, true, true, true, true, true, true, true, true, true, true, true, true, true, false, false, false] rfl rfl (one_of HT_.out (by kernel_rfl)) (by decide) (fun K hK => ?_)
        refine goes_ Tryd.func58 (by kernel_rfl) rfl #[.agg #[.slice Ao22 t790.length co22, .slice Ao25 t793.length co25], .int .i64 (rd t798 0)] (by rfl) rfl rfl (by (try simp only [List.map_toArray, List.map_cons, List.map_nil]); rfl) ?_
        with_reducible refine (impl_set_has.calls _ _ t790 _ _ t793 (rd t798 0) t805 _ ?side1 ?side2 ?side3 ?side4 A14.out).mono ?_
        (case side1 => repeat (exact (Kd.R_reads' HO792.out).2.2))
        (case side2 => exact (Kd.R_reads' HO792.out).2.1)
        (case side3 => repeat (exact (Kd.R_reads' HO795.out).2.2))
        (case side4 => exact (Kd.R_reads' HO795.out).2.1)
        rintro e w30 ⟨rfl, hb⟩
        have HS4_ := (hb.cell (World.block_lt_of_cell? _ _ (hHeld.2.2.2.2.1))).trans (hHeld.2.2.2.2.1)
        have HS5_ := (hb.cell (World.block_lt_of_cell? _ _ (hHeld.2.2.2.2.2))).trans (hHeld.2.2.2.2.2)
        refine ⟨_, rfl, ?_⟩
        replace HO784 := Aside0.mk (Kd.R_below HO784.out hb)
        replace HO787 := Aside0.mk (Kd.R_below HO787.out hb)
        replace HO792 := Aside0.mk (Kd.R_below HO792.out hb)
        replace HO795 := Aside0.mk (Kd.R_below HO795.out hb)
        replace HO801 := Aside0.mk (Kd.R_below HO801.out hb)
        replace BK789 := Aside0.mk (blk_below (g := gb789) (o := .cells #[.slice Ao17 t782.length co17, .slice Ao19 t785.length co19] 49 (0, 0)) BK789.out hb)
        replace BK797 := Aside0.mk (blk_below (g := gb797) (o := .cells #[.slice Ao22 t790.length co22, .slice Ao25 t793.length co25] 49 (0, 0)) BK797.out hb)
        replace HB := Aside0.mk (below_step HB.out hb)
        (try clear hb)
        refine hK.out _ _ ⟨(blk_cell BK789.out 0).trans rfl, (blk_cell BK789.out 1).trans rfl, (blk_cell BK797.out 0).trans rfl, (blk_cell BK797.out 1).trans rfl, HS4_, HS5_⟩ (fun hHeld => ?_)
        clear hK K
        refine norm_ (a' := ?_) ?_ ?_
       |refine pure_ (i := 24) (N := some 61) (v := undef) (a' := ?_) #[true, true, true, true, true, true, true, true, true, true, true, true, true, true, true, true, true, true, true, true, true, true, true, true, true, false, false, false] rfl rfl (any_of HT_.out (by kernel_rfl)) (fun _ _ _ h => h) (Or.inr ⟨by rfl, rfl⟩) ?_ ?_
       rotate_left
       first
       |·show Act.put _ (some 61) _ = _
         simp only [Act.put, List.setIfInBounds_toArray, List.set_cons_zero, List.set_cons_succ, i64_w, i32_w]
         rfl
        refine pure_ (i := 25) (N := some 62) (v := ?_) (a' := ?_) #[true, true, true, true, true, true, true, true, true, true, true, true, true, true, true, true, true, true, true, true, true, true, true, true, true, true, false, false] rfl rfl (any_of HT_.out (by kernel_rfl)) (fun _ _ _ h => h) (Or.inl ⟨by rfl, ?_⟩) ?_ ?_
        rotate_left
        ·intro w'
         go_simp
         with_reducible rfl
       |·simp only [Act.put, List.setIfInBounds_toArray, List.set_cons_zero, List.set_cons_succ, i64_w, i32_w]
         rfl
        refine pure_ (i := 25) (N := some 62) (v := undef) (a' := ?_) #[true, true, true, true, true, true, true, true, true, true, true, true, true, true, true, true, true, true, true, true, true, true, true, true, true, true, false, false] rfl rfl (any_of HT_.out (by kernel_rfl)) (fun _ _ _ h => h) (Or.inr ⟨by rfl, rfl⟩) ?_ ?_
       rotate_left
       ·simp only [Act.put, List.setIfInBounds_toArray, List.set_cons_zero, List.set_cons_succ, i64_w, i32_w]
        rfl
       refine pure_ (i := 26) (N := some 63) (v := ?_) (a' := ?_) #[true, true, true, true, true, true, true, true, true, true, true, true, true, true, true, true, true, true, true, true, true, true, true, true, true, true, true, false] rfl rfl (any_of HT_.out (by kernel_rfl)) (fun _ _ _ h => h) (Or.inl ⟨by rfl, ?_⟩) ?_ ?_
       rotate_left
       ·intro w'
        go_simp
        with_reducible rfl
       rotate_left
       ·simp only [Act.put, List.setIfInBounds_toArray, List.set_cons_zero, List.set_cons_succ, i64_w, i32_w]
        rfl
       refine pure_ (i := 27) (N := some 6) (v := ?_) (a' := ?_) #[true, true, true, true, true, true, true, true, true, true, true, true, true, true, true, true, true, true, true, true, true, true, true, true, true, true, true, true] rfl rfl (any_of HT_.out (by kernel_rfl)) (fun _ _ _ h => h) (Or.inl ⟨by rfl, ?_⟩) ?_ ?_
       rotate_left
       ·intro w'
        go_simp
        with_reducible rfl
       rotate_left
       ·simp only [Act.put, List.setIfInBounds_toArray, List.set_cons_zero, List.set_cons_succ, i64_w, i32_w]
        rfl
       refine done_ (done_of HT_.out (by kernel_rfl)) ?_
       try go_wp2
       go_ret
       exact ⟨by first | rfl | (simp [*, errW_none, errW_some] <;> rfl), HB.out⟩
     ·rw [if_neg c11] at H
      exact absurd H (by simp)
    ·rw [if_neg c10] at H
     have c10b0 : ((t798.length : Int) == 1) = false := beq_eq_false_iff_ne.mpr c10
     have c10b1 : ((t798.length : Int) != 1) = true := bne_iff_ne.mpr c10
     obtain rfl := Option.some.inj H
     go_enter Tryd.func30, Tryd.ntmps30
     try go_wp2_with (first | ((with_reducible refine gate_callee (f := 62) rfl ?_); refine goesL_ (some 15) rfl rfl Tryd.func62 (by kernel_rfl) rfl #[.string a0] rfl (by (try simp only [List.map_toArray, List.map_cons, List.map_nil]); rfl) ?_; (with_reducible refine (impl_setOf.calls a0 t782 t785 true _ A4.out).mono ?_); rintro e w46 ⟨v783, v786, rfl, ho0, ho1, hb⟩; refine ⟨_, rfl, ?_⟩; have HO784 := Aside0.mk (Kd.R_lower ho0 (below_size HB.out)); have HO787 := Aside0.mk (Kd.R_lower ho1 (below_size HB.out)); replace HB := Aside0.mk (below_step HB.out hb); (try clear hb); (try clear ho0); (try clear ho1)) | ((with_reducible refine gate_dst (N := 7) rfl ?_); (try (refine gate_guard (by rfl) ?_; dsimp only)); refine box_event ?hg (N := 7) ?hd (cs := #[.slice none 0 0, .slice none 0 0]) (t := 49) ?hr ?_; (case hd => rfl); (case hg => rfl); (case hr => first | (go_simp; done)); intro gb789 hg w47 hbox hb; replace HO784 := Aside0.mk (Kd.R_below HO784.out hb); replace HO787 := Aside0.mk (Kd.R_below HO787.out hb); have BK789 := Aside0.mk hbox; have GW789 := Aside0.mk ((by rw [hg]; exact (below_size HB.out) : w.heap.size ≤ gb789)); have GE789 := Aside0.mk ((by rw [hg]; exact (below_size HB.out) : w.heap.size ≤ gb789)); replace HB := Aside0.mk (below_step HB.out hb); clear hb hbox hg; obtain ⟨Ao48, co48, eo48⟩ := Kd.R_slice HO784.out; subst eo48; have hcz49_0 : w47.cell? ⟨gb789, 0, none⟩ = some (.slice none 0 0) := (blk_cell BK789.out 0).trans rfl; have hcz49_1 : w47.cell? ⟨gb789, 1, none⟩ = some (.slice none 0 0) := (blk_cell BK789.out 1).trans rfl; have hfz49_0 := blk_frozen BK789.out 0; have hfz49_1 := blk_frozen BK789.out 1; obtain ⟨Ao50, co50, eo50⟩ := Kd.R_slice HO787.out; subst eo50) | ((with_reducible refine gate_callee (f := 62) rfl ?_); refine goesL_ (some 20) rfl rfl Tryd.func62 (by kernel_rfl) rfl #[.string a1] rfl (by (try simp only [List.map_toArray, List.map_cons, List.map_nil]); rfl) ?_; (with_reducible refine (impl_setOf.calls a1 t790 t793 true _ A5.out).mono ?_); rintro e w51 ⟨v791, v794, rfl, ho0, ho1, hb⟩; refine ⟨_, rfl, ?_⟩; have HO792 := Aside0.mk (Kd.R_lower (Kd.R_new' (Kd.R_new' ho0 (Kd.R_lt (by exact (Kd.R_mono (Kd.R_far (p := ⟨gb789, 1, none⟩) (Kd.R_far (p := ⟨gb789, 0, none⟩) (Kd.R_types HO784.out BK789.out (by decide)) (fun _ hk => hk.2) (.slice Ao48 t782.length co48)) (fun _ hk => hk.2) (.slice Ao50 t785.length co50)) (fun _ h_ => h_.1))))) (Kd.R_lt (by exact (Kd.R_mono (Kd.R_far (p := ⟨gb789, 1, none⟩) (Kd.R_far (p := ⟨gb789, 0, none⟩) (Kd.R_types HO787.out BK789.out (by decide)) (fun _ hk => hk.2) (.slice Ao48 t782.length co48)) (fun _ hk => hk.2) (.slice Ao50 t785.length co50)) (fun _ h_ => h_.1))))) (below_size (by repeat (first | (with_reducible first | exact HB.out | refine below_set ?_ GE789.out))))); have HO795 := Aside0.mk (Kd.R_lower (Kd.R_new' (Kd.R_new' ho1 (Kd.R_lt (by exact (Kd.R_mono (Kd.R_far (p := ⟨gb789, 1, none⟩) (Kd.R_far (p := ⟨gb789, 0, none⟩) (Kd.R_types HO784.out BK789.out (by decide)) (fun _ hk => hk.2) (.slice Ao48 t782.length co48)) (fun _ hk => hk.2) (.slice Ao50 t785.length co50)) (fun _ h_ => h_.1))))) (Kd.R_lt (by exact (Kd.R_mono (Kd.R_far (p := ⟨gb789, 1, none⟩) (Kd.R_far (p := ⟨gb789, 0, none⟩) (Kd.R_types HO787.out BK789.out (by decide)) (fun _ hk => hk.2) (.slice Ao48 t782.length co48)) (fun _ hk => hk.2) (.slice Ao50 t785.length co50)) (fun _ h_ => h_.1))))) (below_size (by repeat (first | (with_reducible first | exact HB.out | refine below_set ?_ GE789.out))))); replace HO784 := Aside0.mk (Kd.R_mono (Kd.R_told (Kd.R_told (Kd.R_old (by exact (Kd.R_mono (Kd.R_far (p := ⟨gb789, 1, none⟩) (Kd.R_far (p := ⟨gb789, 0, none⟩) (Kd.R_types HO784.out BK789.out (by decide)) (fun _ hk => hk.2) (.slice Ao48 t782.length co48)) (fun _ hk => hk.2) (.slice Ao50 t785.length co50)) (fun _ h_ => h_.1))) hb) (Kd.R_base ho0)) (Kd.R_base ho1)) (fun _ h_ => h_.1)); replace HO787 := Aside0.mk (Kd.R_mono (Kd.R_told (Kd.R_told (Kd.R_old (by exact (Kd.R_mono (Kd.R_far (p := ⟨gb789, 1, none⟩) (Kd.R_far (p := ⟨gb789, 0, none⟩) (Kd.R_types HO787.out BK789.out (by decide)) (fun _ hk => hk.2) (.slice Ao48 t782.length co48)) (fun _ hk => hk.2) (.slice Ao50 t785.length co50)) (fun _ h_ => h_.1))) hb) (Kd.R_base ho0)) (Kd.R_base ho1)) (fun _ h_ => h_.1)); replace BK789 := Aside0.mk (blk_below (g := gb789) (o := .cells #[.slice Ao48 t782.length co48, .slice Ao50 t785.length co50] 49 (0, 0)) (by refine blk_put (cs := #[.slice Ao48 t782.length co48, .slice none 0 0]) ?_ 1 _ rfl; refine blk_put (cs := #[.slice none 0 0, .slice none 0 0]) ?_ 0 _ rfl; exact BK789.out) hb); replace HB := Aside0.mk (below_step (by repeat (first | (with_reducible first | exact HB.out | refine below_set ?_ GE789.out))) hb); (try clear hb); (try clear ho0); (try clear ho1)) | ((with_reducible refine gate_dst (N := 9) rfl ?_); (try (refine gate_guard (by rfl) ?_; dsimp only)); refine box_event ?hg (N := 9) ?hd (cs := #[.slice none 0 0, .slice none 0 0]) (t := 49) ?hr ?_; (case hd => rfl); (case hg => rfl); (case hr => first | (go_simp; done)); intro gb797 hg w52 hbox hb; replace HO784 := Aside0.mk (Kd.R_below HO784.out hb); replace HO787 := Aside0.mk (Kd.R_below HO787.out hb); replace HO792 := Aside0.mk (Kd.R_below HO792.out hb); replace HO795 := Aside0.mk (Kd.R_below HO795.out hb); have BK797 := Aside0.mk hbox; have GW797 := Aside0.mk ((by rw [hg]; exact (below_size HB.out) : w.heap.size ≤ gb797)); have GE797 := Aside0.mk ((by rw [hg]; exact (below_size HB.out) : w.heap.size ≤ gb797)); replace HB := Aside0.mk (below_step HB.out hb); have NB789_797 := Aside0.mk ((by rw [hg]; exact Nat.ne_of_lt (blk_lt (g := gb789) (o := .cells #[.slice Ao48 t782.length co48, .slice Ao50 t785.length co50] 49 (0, 0)) BK789.out) : gb789 ≠ gb797)); have NB797_789 := Aside0.mk ((by rw [hg]; exact Nat.ne_of_gt (blk_lt (g := gb789) (o := .cells #[.slice Ao48 t782.length co48, .slice Ao50 t785.length co50] 49 (0, 0)) BK789.out) : gb797 ≠ gb789)); replace BK789 := Aside0.mk (blk_below (g := gb789) (o := .cells #[.slice Ao48 t782.length co48, .slice Ao50 t785.length co50] 49 (0, 0)) BK789.out hb); clear hb hbox hg; obtain ⟨Ao53, co53, eo53⟩ := Kd.R_slice HO792.out; subst eo53; have hnb54 := NB797_789.out; have hnc54 := NB789_797.out; have hcz55_0 : w52.cell? ⟨gb797, 0, none⟩ = some (.slice none 0 0) := (blk_cell BK797.out 0).trans rfl; have hcz55_1 : w52.cell? ⟨gb797, 1, none⟩ = some (.slice none 0 0) := (blk_cell BK797.out 1).trans rfl; have hfz55_0 := blk_frozen BK797.out 0; have hfz55_1 := blk_frozen BK797.out 1; obtain ⟨Ao56, co56, eo56⟩ := Kd.R_slice HO795.out; subst eo56) | ((with_reducible refine gate_callee (f := 48) rfl ?_); refine goesL_ (some 25) rfl rfl Tryd.func48 (by kernel_rfl) rfl #[.string a2, .string (⟨#[102, 105, 114, 115, 116]⟩ : ByteArray)] rfl (by (try simp only [List.map_toArray, List.map_cons, List.map_nil]); rfl) ?_; (with_reducible refine (impl_numbersOf.calls a2 (⟨#[102, 105, 114, 115, 116]⟩ : ByteArray) t798 true _ A6.out (GlobN.below hG (by repeat (first | (with_reducible first | exact HB.out | refine below_set ?_ GE797.out))))).mono ?_); rintro e w57 ⟨v800, rfl, ho0, hb⟩; refine ⟨_, rfl, ?_⟩; replace HO784 := Aside0.mk (Kd.R_below (by exact (Kd.R_mono (Kd.R_far (p := ⟨gb797, 1, none⟩) (Kd.R_far (p := ⟨gb797, 0, none⟩) (Kd.R_types HO784.out BK797.out (by decide)) (fun _ hk => hk.2) (.slice Ao53 t790.length co53)) (fun _ hk => hk.2) (.slice Ao56 t793.length co56)) (fun _ h_ => h_.1))) hb); replace HO787 := Aside0.mk (Kd.R_below (by exact (Kd.R_mono (Kd.R_far (p := ⟨gb797, 1, none⟩) (Kd.R_far (p := ⟨gb797, 0, none⟩) (Kd.R_types HO787.out BK797.out (by decide)) (fun _ hk => hk.2) (.slice Ao53 t790.length co53)) (fun _ hk => hk.2) (.slice Ao56 t793.length co56)) (fun _ h_ => h_.1))) hb); replace HO792 := Aside0.mk (Kd.R_below (by exact (Kd.R_mono (Kd.R_far (p := ⟨gb797, 1, none⟩) (Kd.R_far (p := ⟨gb797, 0, none⟩) (Kd.R_types HO792.out BK797.out (by decide)) (fun _ hk => hk.2) (.slice Ao53 t790.length co53)) (fun _ hk => hk.2) (.slice Ao56 t793.length co56)) (fun _ h_ => h_.1))) hb); replace HO795 := Aside0.mk (Kd.R_below (by exact (Kd.R_mono (Kd.R_far (p := ⟨gb797, 1, none⟩) (Kd.R_far (p := ⟨gb797, 0, none⟩) (Kd.R_types HO795.out BK797.out (by decide)) (fun _ hk => hk.2) (.slice Ao53 t790.length co53)) (fun _ hk => hk.2) (.slice Ao56 t793.length co56)) (fun _ h_ => h_.1))) hb); have HO801 := Aside0.mk (Kd.R_lower ho0 (below_size (by repeat (first | (with_reducible first | exact HB.out | refine below_set ?_ GE797.out))))); replace BK789 := Aside0.mk (blk_below (g := gb789) (o := .cells #[.slice Ao48 t782.length co48, .slice Ao50 t785.length co50] 49 (0, 0)) (by refine blk_far ?_ NB789_797.out _; refine blk_far ?_ NB789_797.out _; exact BK789.out) hb); replace BK797 := Aside0.mk (blk_below (g := gb797) (o := .cells #[.slice Ao53 t790.length co53, .slice Ao56 t793.length co56] 49 (0, 0)) (by refine blk_put (cs := #[.slice Ao53 t790.length co53, .slice none 0 0]) ?_ 1 _ rfl; refine blk_put (cs := #[.slice none 0 0, .slice none 0 0]) ?_ 0 _ rfl; exact BK797.out) hb); replace HB := Aside0.mk (below_step (by repeat (first | (with_reducible first | exact HB.out | refine below_set ?_ GE797.out))) hb); (try clear hb); (try clear ho0)))
     replace HO784 := Aside0.mk (Kd.R_drew HO784.out)
     replace HO787 := Aside0.mk (Kd.R_drew HO787.out)
     replace HO792 := Aside0.mk (Kd.R_drew HO792.out)
     replace HO795 := Aside0.mk (Kd.R_drew HO795.out)
     replace HO801 := Aside0.mk (Kd.R_drew HO801.out)
     replace BK789 := Aside0.mk (blk_drew BK789.out)
     replace BK797 := Aside0.mk (blk_drew BK797.out)
     replace HB := Aside0.mk (below_drew1 HB.out)
     obtain ⟨Ao59, co59, eo59⟩ := Kd.R_slice HO801.out
     (subst eo59)
     refine start_ (n := 28) (S := fun w' => True) (ds := []) #[false, false, false, false, false, false, false, false, false, false, false, false, false, false, false, false, false, false, false, false, false, false, false, false, false, false, false, false] (by kernel_rfl) rfl rfl trivial (fun hHeld => ?_); refine with_tabW impl_ProofDifferIs.tab7 impl_ProofDifferIs.bits7 (fun HT_ HW_ => ?_)
     generalize w57.drew = w58 at HO784 HO787 HO792 HO795 HO801 BK789 BK797 HB hHeld ⊢
     refine pure_ (i := 0) (N := some 37) (v := ?_) (a' := ?_) #[true, false, false, false, false, false, false, false, false, false, false, false, false, false, false, false, false, false, false, false, false, false, false, false, false, false, false, false] rfl rfl (any_of HT_.out (by kernel_rfl)) (fun _ _ _ h => h) (Or.inl ⟨by rfl, ?_⟩) ?_ ?_
     rotate_left
     ·intro w'
      go_simp
      with_reducible rfl
     rotate_left
     ·simp only [Act.put, List.setIfInBounds_toArray, List.set_cons_zero, List.set_cons_succ, i64_w, i32_w]
      rfl
     refine pure_ (i := 1) (N := some 38) (v := ?_) (a' := ?_) #[true, true, false, false, false, false, false, false, false, false, false, false, false, false, false, false, false, false, false, false, false, false, false, false, false, false, false, false] rfl rfl (any_of HT_.out (by kernel_rfl)) (fun _ _ _ h => h) (Or.inl ⟨by rfl, ?_⟩) ?_ ?_
     rotate_left
     ·intro w'
      go_simp
      with_reducible rfl
     rotate_left
     ·simp only [Act.put, List.setIfInBounds_toArray, List.set_cons_zero, List.set_cons_succ, i64_w, i32_w]
      rfl
     refine pure_ (i := 2) (N := some 39) (v := ?_) (a' := ?_) #[true, true, true, false, false, false, false, false, false, false, false, false, false, false, false, false, false, false, false, false, false, false, false, false, false, false, false, false] rfl rfl (any_of HT_.out (by kernel_rfl)) (fun _ _ _ h => h) (Or.inl ⟨by rfl, ?_⟩) ?_ ?_
     rotate_left
     ·intro w'
      go_simp
      with_reducible rfl
     rotate_left
     ·simp only [Act.put, List.setIfInBounds_toArray, List.set_cons_zero, List.set_cons_succ, i64_w, i32_w]
      rfl
     refine pure_ (i := 3) (N := some 40) (v := ?_) (a' := ?_) #[true, true, true, true, false, false, false, false, false, false, false, false, false, false, false, false, false, false, false, false, false, false, false, false, false, false, false, false] rfl rfl (any_of HT_.out (by kernel_rfl)) (fun _ _ _ h => h) (Or.inl ⟨by rfl, ?_⟩) ?_ ?_
     rotate_left
     ·intro w'
      go_simp
      with_reducible rfl
     rotate_left
     ·simp only [Act.put, List.setIfInBounds_toArray, List.set_cons_zero, List.set_cons_succ, i64_w, i32_w]
      rfl
     refine pure_ (i := 4) (N := some 41) (v := ?_) (a' := ?_) #[true, true, true, true, true, false, false, false, false, false, false, false, false, false, false, false, false, false, false, false, false, false, false, false, false, false, false, false] rfl rfl (any_of HT_.out (by kernel_rfl)) (fun _ _ _ h => h) (Or.inl ⟨by rfl, ?_⟩) ?_ ?_
     rotate_left
     ·intro w'
      go_simp
      with_reducible rfl
     rotate_left
     ·simp only [Act.put, List.setIfInBounds_toArray, List.set_cons_zero, List.set_cons_succ, i64_w, i32_w]
      rfl
     refine pure_ (i := 5) (N := some 42) (v := ?_) (a' := ?_) #[true, true, true, true, true, true, false, false, false, false, false, false, false, false, false, false, false, false, false, false, false, false, false, false, false, false, false, false] rfl rfl (any_of HT_.out (by kernel_rfl)) (fun _ _ _ h => h) (Or.inl ⟨by rfl, ?_⟩) ?_ ?_
     rotate_left
     ·intro w'
      go_simp
      with_reducible rfl
     rotate_left
     ·simp only [Act.put, List.setIfInBounds_toArray, List.set_cons_zero, List.set_cons_succ, i64_w, i32_w]
      rfl
     refine pure_ (i := 6) (N := some 43) (v := ?_) (a' := ?_) #[true, true, true, true, true, true, true, false, false, false, false, false, false, false, false, false, false, false, false, false, false, false, false, false, false, false, false, false] rfl rfl (any_of HT_.out (by kernel_rfl)) (fun _ _ _ h => h) (Or.inl ⟨by rfl, ?_⟩) ?_ ?_
     rotate_left
     ·intro w'
      go_simp
      with_reducible rfl
     rotate_left
     ·simp only [Act.put, List.setIfInBounds_toArray, List.set_cons_zero, List.set_cons_succ, i64_w, i32_w]
      rfl
     refine pure_ (i := 7) (N := some 44) (v := ?_) (a' := ?_) #[true, true, true, true, true, true, true, true, false, false, false, false, false, false, false, false, false, false, false, false, false, false, false, false, false, false, false, false] rfl rfl (any_of HT_.out (by kernel_rfl)) (fun _ _ _ h => h) (Or.inl ⟨by rfl, ?_⟩) ?_ ?_
     rotate_left
     ·intro w'
      go_simp
      with_reducible rfl
     rotate_left
     ·simp only [Act.put, List.setIfInBounds_toArray, List.set_cons_zero, List.set_cons_succ, i64_w, i32_w]
      rfl
     refine pure_ (i := 8) (N := some 45) (v := ?_) (a' := ?_) #[true, true, true, true, true, true, true, true, true, false, false, false, false, false, false, false, false, false, false, false, false, false, false, false, false, false, false, false] rfl rfl (any_of HT_.out (by kernel_rfl)) (fun _ _ _ h => h) (Or.inl ⟨by rfl, ?_⟩) ?_ ?_
     rotate_left
     ·intro w'
      go_simp
      with_reducible rfl
     rotate_left
     ·simp only [Act.put, List.setIfInBounds_toArray, List.set_cons_zero, List.set_cons_succ, i64_w, i32_w]
      rfl
     refine pure_ (i := 9) (N := some 46) (v := ?_) (a' := ?_) #[true, true, true, true, true, true, true, true, true, true, false, false, false, false, false, false, false, false, false, false, false, false, false, false, false, false, false, false] rfl rfl (any_of HT_.out (by kernel_rfl)) (fun _ _ _ h => h) (Or.inl ⟨by rfl, ?_⟩) ?_ ?_
     rotate_left
     ·intro w'
      go_simp
      with_reducible rfl
     rotate_left
     ·simp only [Act.put, List.setIfInBounds_toArray, List.set_cons_zero, List.set_cons_succ, i64_w, i32_w]
      rfl
     refine pure_ (i := 10) (N := some 47) (v := ?_) (a' := ?_) #[true, true, true, true, true, true, true, true, true, true, true, false, false, false, false, false, false, false, false, false, false, false, false, false, false, false, false, false] rfl rfl (any_of HT_.out (by kernel_rfl)) (fun _ _ _ h => h) (Or.inl ⟨by rfl, ?_⟩) ?_ ?_
     rotate_left
     ·intro w'
      go_simp
      with_reducible rfl
     rotate_left
     ·simp only [Act.put, List.setIfInBounds_toArray, List.set_cons_zero, List.set_cons_succ, i64_w, i32_w]
      rfl
     refine pure_ (i := 11) (N := some 48) (v := ?_) (a' := ?_) #[true, true, true, true, true, true, true, true, true, true, true, true, false, false, false, false, false, false, false, false, false, false, false, false, false, false, false, false] rfl rfl (any_of HT_.out (by kernel_rfl)) (fun _ _ _ h => h) (Or.inl ⟨by rfl, ?_⟩) ?_ ?_
     rotate_left
     ·intro w'
      go_simp
      with_reducible rfl
     rotate_left
     ·simp only [Act.put, List.setIfInBounds_toArray, List.set_cons_zero, List.set_cons_succ, i64_w, i32_w]
      rfl
     refine pure_ (i := 12) (N := some 49) (v := ?_) (a' := ?_) #[true, true, true, true, true, true, true, true, true, true, true, true, true, false, false, false, false, false, false, false, false, false, false, false, false, false, false, false] rfl rfl (any_of HT_.out (by kernel_rfl)) (fun _ _ _ h => h) (Or.inl ⟨by rfl, ?_⟩) ?_ ?_
     rotate_left
     ·intro w'
      go_simp
      with_reducible rfl
     rotate_left
     ·simp only [Act.put, List.setIfInBounds_toArray, List.set_cons_zero, List.set_cons_succ, i64_w, i32_w]
      rfl
     refine pure_ (i := 13) (N := some 50) (v := undef) (a' := ?_) #[true, true, true, true, true, true, true, true, true, true, true, true, true, true, false, false, false, false, false, false, false, false, false, false, false, false, false, false] rfl rfl (any_of HT_.out (by kernel_rfl)) (fun _ _ _ h => h) (Or.inr ⟨by rfl, rfl⟩) ?_ ?_
     rotate_left
     ·simp only [Act.put, List.setIfInBounds_toArray, List.set_cons_zero, List.set_cons_succ, i64_w, i32_w]
      rfl
     refine pure_ (i := 14) (N := some 51) (v := undef) (a' := ?_) #[true, true, true, true, true, true, true, true, true, true, true, true, true, true, true, false, false, false, false, false, false, false, false, false, false, false, false, false] rfl rfl (any_of HT_.out (by kernel_rfl)) (fun _ _ _ h => h) (Or.inr ⟨by rfl, rfl⟩) ?_ ?_
     rotate_left
     ·simp only [Act.put, List.setIfInBounds_toArray, List.set_cons_zero, List.set_cons_succ, i64_w, i32_w]
      rfl
     refine pure_ (i := 15) (N := some 52) (v := undef) (a' := ?_) #[true, true, true, true, true, true, true, true, true, true, true, true, true, true, true, true, false, false, false, false, false, false, false, false, false, false, false, false] rfl rfl (any_of HT_.out (by kernel_rfl)) (fun _ _ _ h => h) (Or.inr ⟨by rfl, rfl⟩) ?_ ?_
     rotate_left
     ·simp only [Act.put, List.setIfInBounds_toArray, List.set_cons_zero, List.set_cons_succ, i64_w, i32_w]
      rfl
     refine pure_ (i := 16) (N := some 53) (v := undef) (a' := ?_) #[true, true, true, true, true, true, true, true, true, true, true, true, true, true, true, true, true, false, false, false, false, false, false, false, false, false, false, false] rfl rfl (any_of HT_.out (by kernel_rfl)) (fun _ _ _ h => h) (Or.inr ⟨by rfl, rfl⟩) ?_ ?_
     rotate_left
     ·simp only [Act.put, List.setIfInBounds_toArray, List.set_cons_zero, List.set_cons_succ, i64_w, i32_w]
      rfl
     refine pure_ (i := 17) (N := some 54) (v := undef) (a' := ?_) #[true, true, true, true, true, true, true, true, true, true, true, true, true, true, true, true, true, true, false, false, false, false, false, false, false, false, false, false] rfl rfl (any_of HT_.out (by kernel_rfl)) (fun _ _ _ h => h) (Or.inr ⟨by rfl, rfl⟩) ?_ ?_
     rotate_left
     ·simp only [Act.put, List.setIfInBounds_toArray, List.set_cons_zero, List.set_cons_succ, i64_w, i32_w]
      rfl
     refine pure_ (i := 18) (N := some 55) (v := ?_) (a' := ?_) #[true, true, true, true, true, true, true, true, true, true, true, true, true, true, true, true, true, true, true, false, false, false, false, false, false, false, false, false] rfl rfl (any_of HT_.out (by kernel_rfl)) (fun _ _ _ h => h) (Or.inl ⟨by rfl, ?_⟩) ?_ ?_
     rotate_left
     ·intro w'
      go_simp
      with_reducible rfl
     rotate_left
     ·simp only [Act.put, List.setIfInBounds_toArray, List.set_cons_zero, List.set_cons_succ, i64_w, i32_w]
      rfl
     refine pure_ (i := 19) (N := some 56) (v := ?_) (a' := ?_) #[true, true, true, true, true, true, true, true, true, true, true, true, true, true, true, true, true, true, true, true, false, false, false, false, false, false, false, false] rfl rfl (any_of HT_.out (by kernel_rfl)) (fun _ _ _ h => h) (Or.inl ⟨by rfl, ?_⟩) ?_ ?_
     rotate_left
     ·intro w'
      go_simp
      with_reducible rfl
     rotate_left
     ·simp only [Act.put, List.setIfInBounds_toArray, List.set_cons_zero, List.set_cons_succ, i64_w, i32_w]
      rfl
     refine pure_ (i := 20) (N := some 57) (v := undef) (a' := ?_) #[true, true, true, true, true, true, true, true, true, true, true, true, true, true, true, true, true, true, true, true, true, false, false, false, false, false, false, false] rfl rfl (any_of HT_.out (by kernel_rfl)) (fun _ _ _ h => h) (Or.inr ⟨by rfl, rfl⟩) ?_ ?_
     rotate_left
     ·simp only [Act.put, List.setIfInBounds_toArray, List.set_cons_zero, List.set_cons_succ, i64_w, i32_w]
      rfl
     refine pure_ (i := 21) (N := some 58) (v := undef) (a' := ?_) #[true, true, true, true, true, true, true, true, true, true, true, true, true, true, true, true, true, true, true, true, true, true, false, false, false, false, false, false] rfl rfl (any_of HT_.out (by kernel_rfl)) (fun _ _ _ h => h) (Or.inr ⟨by rfl, rfl⟩) ?_ ?_
     rotate_left
     ·simp only [Act.put, List.setIfInBounds_toArray, List.set_cons_zero, List.set_cons_succ, i64_w, i32_w]
      rfl
     refine pure_ (i := 22) (N := some 59) (v := undef) (a' := ?_) #[true, true, true, true, true, true, true, true, true, true, true, true, true, true, true, true, true, true, true, true, true, true, true, false, false, false, false, false] rfl rfl (any_of HT_.out (by kernel_rfl)) (fun _ _ _ h => h) (Or.inr ⟨by rfl, rfl⟩) ?_ ?_
     rotate_left
     ·simp only [Act.put, List.setIfInBounds_toArray, List.set_cons_zero, List.set_cons_succ, i64_w, i32_w]
      rfl
     refine pure_ (i := 23) (N := some 60) (v := undef) (a' := ?_) #[true, true, true, true, true, true, true, true, true, true, true, true, true, true, true, true, true, true, true, true, true, true, true, true, false, false, false, false] rfl rfl (any_of HT_.out (by kernel_rfl)) (fun _ _ _ h => h) (Or.inr ⟨by rfl, rfl⟩) ?_ ?_
     rotate_left
     ·simp only [Act.put, List.setIfInBounds_toArray, List.set_cons_zero, List.set_cons_succ, i64_w, i32_w]
      rfl
     refine pure_ (i := 24) (N := some 61) (v := undef) (a' := ?_) #[true, true, true, true, true, true, true, true, true, true, true, true, true, true, true, true, true, true, true, true, true, true, true, true, true, false, false, false] rfl rfl (any_of HT_.out (by kernel_rfl)) (fun _ _ _ h => h) (Or.inr ⟨by rfl, rfl⟩) ?_ ?_
     rotate_left
     ·simp only [Act.put, List.setIfInBounds_toArray, List.set_cons_zero, List.set_cons_succ, i64_w, i32_w]
      rfl
     refine pure_ (i := 25) (N := some 62) (v := undef) (a' := ?_) #[true, true, true, true, true, true, true, true, true, true, true, true, true, true, true, true, true, true, true, true, true, true, true, true, true, true, false, false] rfl rfl (any_of HT_.out (by kernel_rfl)) (fun _ _ _ h => h) (Or.inr ⟨by rfl, rfl⟩) ?_ ?_
     rotate_left
     ·simp only [Act.put, List.setIfInBounds_toArray, List.set_cons_zero, List.set_cons_succ, i64_w, i32_w]
      rfl
     refine pure_ (i := 26) (N := some 63) (v := ?_) (a' := ?_) #[true, true, true, true, true, true, true, true, true, true, true, true, true, true, true, true, true, true, true, true, true, true, true, true, true, true, true, false] rfl rfl (any_of HT_.out (by kernel_rfl)) (fun _ _ _ h => h) (Or.inl ⟨by rfl, ?_⟩) ?_ ?_
     rotate_left
     ·intro w'
      go_simp
      with_reducible rfl
     rotate_left
     ·simp only [Act.put, List.setIfInBounds_toArray, List.set_cons_zero, List.set_cons_succ, i64_w, i32_w]
      rfl
     refine pure_ (i := 27) (N := some 6) (v := ?_) (a' := ?_) #[true, true, true, true, true, true, true, true, true, true, true, true, true, true, true, true, true, true, true, true, true, true, true, true, true, true, true, true] rfl rfl (any_of HT_.out (by kernel_rfl)) (fun _ _ _ h => h) (Or.inl ⟨by rfl, ?_⟩) ?_ ?_
     rotate_left
     ·intro w'
      go_simp
      with_reducible rfl
     rotate_left
     ·simp only [Act.put, List.setIfInBounds_toArray, List.set_cons_zero, List.set_cons_succ, i64_w, i32_w]
      rfl
     refine done_ (done_of HT_.out (by kernel_rfl)) ?_
     try go_wp2
     go_ret
     exact ⟨by first | rfl | (simp [*, errW_none, errW_some] <;> rfl), HB.out⟩
   ·replace c9 := Bool.eq_false_iff.mpr c9
    subst c9
    replace H : (some false) = some r := by rw [if_neg (show ¬ (false = true) by decide)] at H; exact H
    obtain rfl := Option.some.inj H
    go_enter Tryd.func30, Tryd.ntmps30
    try go_wp2_with (first | ((with_reducible refine gate_callee (f := 62) rfl ?_); refine goesL_ (some 15) rfl rfl Tryd.func62 (by kernel_rfl) rfl #[.string a0] rfl (by (try simp only [List.map_toArray, List.map_cons, List.map_nil]); rfl) ?_; (with_reducible refine (impl_setOf.calls a0 t782 t785 true _ A4.out).mono ?_); rintro e w60 ⟨v783, v786, rfl, ho0, ho1, hb⟩; refine ⟨_, rfl, ?_⟩; have HO784 := Aside0.mk (Kd.R_lower ho0 (below_size HB.out)); have HO787 := Aside0.mk (Kd.R_lower ho1 (below_size HB.out)); replace HB := Aside0.mk (below_step HB.out hb); (try clear hb); (try clear ho0); (try clear ho1)) | ((with_reducible refine gate_dst (N := 7) rfl ?_); (try (refine gate_guard (by rfl) ?_; dsimp only)); refine box_event ?hg (N := 7) ?hd (cs := #[.slice none 0 0, .slice none 0 0]) (t := 49) ?hr ?_; (case hd => rfl); (case hg => rfl); (case hr => first | (go_simp; done)); intro gb789 hg w61 hbox hb; replace HO784 := Aside0.mk (Kd.R_below HO784.out hb); replace HO787 := Aside0.mk (Kd.R_below HO787.out hb); have BK789 := Aside0.mk hbox; have GW789 := Aside0.mk ((by rw [hg]; exact (below_size HB.out) : w.heap.size ≤ gb789)); have GE789 := Aside0.mk ((by rw [hg]; exact (below_size HB.out) : w.heap.size ≤ gb789)); replace HB := Aside0.mk (below_step HB.out hb); clear hb hbox hg; obtain ⟨Ao62, co62, eo62⟩ := Kd.R_slice HO784.out; subst eo62; have hcz63_0 : w61.cell? ⟨gb789, 0, none⟩ = some (.slice none 0 0) := (blk_cell BK789.out 0).trans rfl; have hcz63_1 : w61.cell? ⟨gb789, 1, none⟩ = some (.slice none 0 0) := (blk_cell BK789.out 1).trans rfl; have hfz63_0 := blk_frozen BK789.out 0; have hfz63_1 := blk_frozen BK789.out 1; obtain ⟨Ao64, co64, eo64⟩ := Kd.R_slice HO787.out; subst eo64) | ((with_reducible refine gate_callee (f := 62) rfl ?_); refine goesL_ (some 20) rfl rfl Tryd.func62 (by kernel_rfl) rfl #[.string a1] rfl (by (try simp only [List.map_toArray, List.map_cons, List.map_nil]); rfl) ?_; (with_reducible refine (impl_setOf.calls a1 t790 t793 false _ A5.out).mono ?_); rintro e w65 ⟨v791, v794, rfl, ho0, ho1, hb⟩; refine ⟨_, rfl, ?_⟩; have HO792 := Aside0.mk (Kd.R_lower (Kd.R_new' (Kd.R_new' ho0 (Kd.R_lt (by exact (Kd.R_mono (Kd.R_far (p := ⟨gb789, 1, none⟩) (Kd.R_far (p := ⟨gb789, 0, none⟩) (Kd.R_types HO784.out BK789.out (by decide)) (fun _ hk => hk.2) (.slice Ao62 t782.length co62)) (fun _ hk => hk.2) (.slice Ao64 t785.length co64)) (fun _ h_ => h_.1))))) (Kd.R_lt (by exact (Kd.R_mono (Kd.R_far (p := ⟨gb789, 1, none⟩) (Kd.R_far (p := ⟨gb789, 0, none⟩) (Kd.R_types HO787.out BK789.out (by decide)) (fun _ hk => hk.2) (.slice Ao62 t782.length co62)) (fun _ hk => hk.2) (.slice Ao64 t785.length co64)) (fun _ h_ => h_.1))))) (below_size (by repeat (first | (with_reducible first | exact HB.out | refine below_set ?_ GE789.out))))); have HO795 := Aside0.mk (Kd.R_lower (Kd.R_new' (Kd.R_new' ho1 (Kd.R_lt (by exact (Kd.R_mono (Kd.R_far (p := ⟨gb789, 1, none⟩) (Kd.R_far (p := ⟨gb789, 0, none⟩) (Kd.R_types HO784.out BK789.out (by decide)) (fun _ hk => hk.2) (.slice Ao62 t782.length co62)) (fun _ hk => hk.2) (.slice Ao64 t785.length co64)) (fun _ h_ => h_.1))))) (Kd.R_lt (by exact (Kd.R_mono (Kd.R_far (p := ⟨gb789, 1, none⟩) (Kd.R_far (p := ⟨gb789, 0, none⟩) (Kd.R_types HO787.out BK789.out (by decide)) (fun _ hk => hk.2) (.slice Ao62 t782.length co62)) (fun _ hk => hk.2) (.slice Ao64 t785.length co64)) (fun _ h_ => h_.1))))) (below_size (by repeat (first | (with_reducible first | exact HB.out | refine below_set ?_ GE789.out))))); replace HO784 := Aside0.mk (Kd.R_mono (Kd.R_told (Kd.R_told (Kd.R_old (by exact (Kd.R_mono (Kd.R_far (p := ⟨gb789, 1, none⟩) (Kd.R_far (p := ⟨gb789, 0, none⟩) (Kd.R_types HO784.out BK789.out (by decide)) (fun _ hk => hk.2) (.slice Ao62 t782.length co62)) (fun _ hk => hk.2) (.slice Ao64 t785.length co64)) (fun _ h_ => h_.1))) hb) (Kd.R_base ho0)) (Kd.R_base ho1)) (fun _ h_ => h_.1)); replace HO787 := Aside0.mk (Kd.R_mono (Kd.R_told (Kd.R_told (Kd.R_old (by exact (Kd.R_mono (Kd.R_far (p := ⟨gb789, 1, none⟩) (Kd.R_far (p := ⟨gb789, 0, none⟩) (Kd.R_types HO787.out BK789.out (by decide)) (fun _ hk => hk.2) (.slice Ao62 t782.length co62)) (fun _ hk => hk.2) (.slice Ao64 t785.length co64)) (fun _ h_ => h_.1))) hb) (Kd.R_base ho0)) (Kd.R_base ho1)) (fun _ h_ => h_.1)); replace BK789 := Aside0.mk (blk_below (g := gb789) (o := .cells #[.slice Ao62 t782.length co62, .slice Ao64 t785.length co64] 49 (0, 0)) (by refine blk_put (cs := #[.slice Ao62 t782.length co62, .slice none 0 0]) ?_ 1 _ rfl; refine blk_put (cs := #[.slice none 0 0, .slice none 0 0]) ?_ 0 _ rfl; exact BK789.out) hb); replace HB := Aside0.mk (below_step (by repeat (first | (with_reducible first | exact HB.out | refine below_set ?_ GE789.out))) hb); (try clear hb); (try clear ho0); (try clear ho1)) | ((with_reducible refine gate_dst (N := 9) rfl ?_); (try (refine gate_guard (by rfl) ?_; dsimp only)); refine box_event ?hg (N := 9) ?hd (cs := #[.slice none 0 0, .slice none 0 0]) (t := 49) ?hr ?_; (case hd => rfl); (case hg => rfl); (case hr => first | (go_simp; done)); intro gb797 hg w66 hbox hb; replace HO784 := Aside0.mk (Kd.R_below HO784.out hb); replace HO787 := Aside0.mk (Kd.R_below HO787.out hb); replace HO792 := Aside0.mk (Kd.R_below HO792.out hb); replace HO795 := Aside0.mk (Kd.R_below HO795.out hb); have BK797 := Aside0.mk hbox; have GW797 := Aside0.mk ((by rw [hg]; exact (below_size HB.out) : w.heap.size ≤ gb797)); have GE797 := Aside0.mk ((by rw [hg]; exact (below_size HB.out) : w.heap.size ≤ gb797)); replace HB := Aside0.mk (below_step HB.out hb); have NB789_797 := Aside0.mk ((by rw [hg]; exact Nat.ne_of_lt (blk_lt (g := gb789) (o := .cells #[.slice Ao62 t782.length co62, .slice Ao64 t785.length co64] 49 (0, 0)) BK789.out) : gb789 ≠ gb797)); have NB797_789 := Aside0.mk ((by rw [hg]; exact Nat.ne_of_gt (blk_lt (g := gb789) (o := .cells #[.slice Ao62 t782.length co62, .slice Ao64 t785.length co64] 49 (0, 0)) BK789.out) : gb797 ≠ gb789)); replace BK789 := Aside0.mk (blk_below (g := gb789) (o := .cells #[.slice Ao62 t782.length co62, .slice Ao64 t785.length co64] 49 (0, 0)) BK789.out hb); clear hb hbox hg; obtain ⟨Ao67, co67, eo67⟩ := Kd.R_slice HO792.out; subst eo67; have hnb68 := NB797_789.out; have hnc68 := NB789_797.out; have hcz69_0 : w66.cell? ⟨gb797, 0, none⟩ = some (.slice none 0 0) := (blk_cell BK797.out 0).trans rfl; have hcz69_1 : w66.cell? ⟨gb797, 1, none⟩ = some (.slice none 0 0) := (blk_cell BK797.out 1).trans rfl; have hfz69_0 := blk_frozen BK797.out 0; have hfz69_1 := blk_frozen BK797.out 1; obtain ⟨Ao70, co70, eo70⟩ := Kd.R_slice HO795.out; subst eo70) | ((with_reducible refine gate_callee (f := 48) rfl ?_); refine goesL_ (some 25) rfl rfl Tryd.func48 (by kernel_rfl) rfl #[.string a2, .string (⟨#[102, 105, 114, 115, 116]⟩ : ByteArray)] rfl (by (try simp only [List.map_toArray, List.map_cons, List.map_nil]); rfl) ?_; (with_reducible refine (impl_numbersOf.calls a2 (⟨#[102, 105, 114, 115, 116]⟩ : ByteArray) t798 true _ A6.out (GlobN.below hG (by repeat (first | (with_reducible first | exact HB.out | refine below_set ?_ GE797.out))))).mono ?_); rintro e w71 ⟨v800, rfl, ho0, hb⟩; refine ⟨_, rfl, ?_⟩; replace HO784 := Aside0.mk (Kd.R_below (by exact (Kd.R_mono (Kd.R_far (p := ⟨gb797, 1, none⟩) (Kd.R_far (p := ⟨gb797, 0, none⟩) (Kd.R_types HO784.out BK797.out (by decide)) (fun _ hk => hk.2) (.slice Ao67 t790.length co67)) (fun _ hk => hk.2) (.slice Ao70 t793.length co70)) (fun _ h_ => h_.1))) hb); replace HO787 := Aside0.mk (Kd.R_below (by exact (Kd.R_mono (Kd.R_far (p := ⟨gb797, 1, none⟩) (Kd.R_far (p := ⟨gb797, 0, none⟩) (Kd.R_types HO787.out BK797.out (by decide)) (fun _ hk => hk.2) (.slice Ao67 t790.length co67)) (fun _ hk => hk.2) (.slice Ao70 t793.length co70)) (fun _ h_ => h_.1))) hb); replace HO792 := Aside0.mk (Kd.R_below (by exact (Kd.R_mono (Kd.R_far (p := ⟨gb797, 1, none⟩) (Kd.R_far (p := ⟨gb797, 0, none⟩) (Kd.R_types HO792.out BK797.out (by decide)) (fun _ hk => hk.2) (.slice Ao67 t790.length co67)) (fun _ hk => hk.2) (.slice Ao70 t793.length co70)) (fun _ h_ => h_.1))) hb); replace HO795 := Aside0.mk (Kd.R_below (by exact (Kd.R_mono (Kd.R_far (p := ⟨gb797, 1, none⟩) (Kd.R_far (p := ⟨gb797, 0, none⟩) (Kd.R_types HO795.out BK797.out (by decide)) (fun _ hk => hk.2) (.slice Ao67 t790.length co67)) (fun _ hk => hk.2) (.slice Ao70 t793.length co70)) (fun _ h_ => h_.1))) hb); have HO801 := Aside0.mk (Kd.R_lower ho0 (below_size (by repeat (first | (with_reducible first | exact HB.out | refine below_set ?_ GE797.out))))); replace BK789 := Aside0.mk (blk_below (g := gb789) (o := .cells #[.slice Ao62 t782.length co62, .slice Ao64 t785.length co64] 49 (0, 0)) (by refine blk_far ?_ NB789_797.out _; refine blk_far ?_ NB789_797.out _; exact BK789.out) hb); replace BK797 := Aside0.mk (blk_below (g := gb797) (o := .cells #[.slice Ao67 t790.length co67, .slice Ao70 t793.length co70] 49 (0, 0)) (by refine blk_put (cs := #[.slice Ao67 t790.length co67, .slice none 0 0]) ?_ 1 _ rfl; refine blk_put (cs := #[.slice none 0 0, .slice none 0 0]) ?_ 0 _ rfl; exact BK797.out) hb); replace HB := Aside0.mk (below_step (by repeat (first | (with_reducible first | exact HB.out | refine below_set ?_ GE797.out))) hb); (try clear hb); (try clear ho0)))
    replace HO784 := Aside0.mk (Kd.R_drew HO784.out)
    replace HO787 := Aside0.mk (Kd.R_drew HO787.out)
    replace HO792 := Aside0.mk (Kd.R_drew HO792.out)
    replace HO795 := Aside0.mk (Kd.R_drew HO795.out)
    replace HO801 := Aside0.mk (Kd.R_drew HO801.out)
    replace BK789 := Aside0.mk (blk_drew BK789.out)
    replace BK797 := Aside0.mk (blk_drew BK797.out)
    replace HB := Aside0.mk (below_drew1 HB.out)
    refine start_ (n := 28) (S := fun w' => True) (ds := []) #[false, false, false, false, false, false, false, false, false, false, false, false, false, false, false, false, false, false, false, false, false, false, false, false, false, false, false, false] (by kernel_rfl) rfl rfl trivial (fun hHeld => ?_); refine with_tabW impl_ProofDifferIs.tab7 impl_ProofDifferIs.bits7 (fun HT_ HW_ => ?_)
    generalize w71.drew = w72 at HO784 HO787 HO792 HO795 HO801 BK789 BK797 HB hHeld ⊢
    refine pure_ (i := 0) (N := some 37) (v := ?_) (a' := ?_) #[true, false, false, false, false, false, false, false, false, false, false, false, false, false, false, false, false, false, false, false, false, false, false, false, false, false, false, false] rfl rfl (any_of HT_.out (by kernel_rfl)) (fun _ _ _ h => h) (Or.inl ⟨by rfl, ?_⟩) ?_ ?_
    rotate_left
    ·intro w'
     go_simp
     with_reducible rfl
    rotate_left
    ·simp only [Act.put, List.setIfInBounds_toArray, List.set_cons_zero, List.set_cons_succ, i64_w, i32_w]
     rfl
    refine pure_ (i := 1) (N := some 38) (v := ?_) (a' := ?_) #[true, true, false, false, false, false, false, false, false, false, false, false, false, false, false, false, false, false, false, false, false, false, false, false, false, false, false, false] rfl rfl (any_of HT_.out (by kernel_rfl)) (fun _ _ _ h => h) (Or.inl ⟨by rfl, ?_⟩) ?_ ?_
    rotate_left
    ·intro w'
     go_simp
     with_reducible rfl
    rotate_left
    ·simp only [Act.put, List.setIfInBounds_toArray, List.set_cons_zero, List.set_cons_succ, i64_w, i32_w]
     rfl
    refine pure_ (i := 2) (N := some 39) (v := ?_) (a' := ?_) #[true, true, true, false, false, false, false, false, false, false, false, false, false, false, false, false, false, false, false, false, false, false, false, false, false, false, false, false] rfl rfl (any_of HT_.out (by kernel_rfl)) (fun _ _ _ h => h) (Or.inl ⟨by rfl, ?_⟩) ?_ ?_
    rotate_left
    ·intro w'
     go_simp
     with_reducible rfl
    rotate_left
    ·simp only [Act.put, List.setIfInBounds_toArray, List.set_cons_zero, List.set_cons_succ, i64_w, i32_w]
     rfl
    refine pure_ (i := 3) (N := some 40) (v := ?_) (a' := ?_) #[true, true, true, true, false, false, false, false, false, false, false, false, false, false, false, false, false, false, false, false, false, false, false, false, false, false, false, false] rfl rfl (any_of HT_.out (by kernel_rfl)) (fun _ _ _ h => h) (Or.inl ⟨by rfl, ?_⟩) ?_ ?_
    rotate_left
    ·intro w'
     go_simp
     with_reducible rfl
    rotate_left
    ·simp only [Act.put, List.setIfInBounds_toArray, List.set_cons_zero, List.set_cons_succ, i64_w, i32_w]
     rfl
    refine pure_ (i := 4) (N := some 41) (v := ?_) (a' := ?_) #[true, true, true, true, true, false, false, false, false, false, false, false, false, false, false, false, false, false, false, false, false, false, false, false, false, false, false, false] rfl rfl (any_of HT_.out (by kernel_rfl)) (fun _ _ _ h => h) (Or.inl ⟨by rfl, ?_⟩) ?_ ?_
    rotate_left
    ·intro w'
     go_simp
     with_reducible rfl
    rotate_left
    ·simp only [Act.put, List.setIfInBounds_toArray, List.set_cons_zero, List.set_cons_succ, i64_w, i32_w]
     rfl
    refine pure_ (i := 5) (N := some 42) (v := undef) (a' := ?_) #[true, true, true, true, true, true, false, false, false, false, false, false, false, false, false, false, false, false, false, false, false, false, false, false, false, false, false, false] rfl rfl (any_of HT_.out (by kernel_rfl)) (fun _ _ _ h => h) (Or.inr ⟨by rfl, rfl⟩) ?_ ?_
    rotate_left
    ·simp only [Act.put, List.setIfInBounds_toArray, List.set_cons_zero, List.set_cons_succ, i64_w, i32_w]
     rfl
    refine pure_ (i := 6) (N := some 43) (v := ?_) (a' := ?_) #[true, true, true, true, true, true, true, false, false, false, false, false, false, false, false, false, false, false, false, false, false, false, false, false, false, false, false, false] rfl rfl (any_of HT_.out (by kernel_rfl)) (fun _ _ _ h => h) (Or.inl ⟨by rfl, ?_⟩) ?_ ?_
    rotate_left
    ·intro w'
     go_simp
     with_reducible rfl
    rotate_left
    ·simp only [Act.put, List.setIfInBounds_toArray, List.set_cons_zero, List.set_cons_succ, i64_w, i32_w]
     rfl
    refine pure_ (i := 7) (N := some 44) (v := ?_) (a' := ?_) #[true, true, true, true, true, true, true, true, false, false, false, false, false, false, false, false, false, false, false, false, false, false, false, false, false, false, false, false] rfl rfl (any_of HT_.out (by kernel_rfl)) (fun _ _ _ h => h) (Or.inl ⟨by rfl, ?_⟩) ?_ ?_
    rotate_left
    ·intro w'
     go_simp
     with_reducible rfl
    rotate_left
    ·simp only [Act.put, List.setIfInBounds_toArray, List.set_cons_zero, List.set_cons_succ, i64_w, i32_w]
     rfl
    refine pure_ (i := 8) (N := some 45) (v := undef) (a' := ?_) #[true, true, true, true, true, true, true, true, true, false, false, false, false, false, false, false, false, false, false, false, false, false, false, false, false, false, false, false] rfl rfl (any_of HT_.out (by kernel_rfl)) (fun _ _ _ h => h) (Or.inr ⟨by rfl, rfl⟩) ?_ ?_
    rotate_left
    ·simp only [Act.put, List.setIfInBounds_toArray, List.set_cons_zero, List.set_cons_succ, i64_w, i32_w]
     rfl
    refine pure_ (i := 9) (N := some 46) (v := undef) (a' := ?_) #[true, true, true, true, true, true, true, true, true, true, false, false, false, false, false, false, false, false, false, false, false, false, false, false, false, false, false, false] rfl rfl (any_of HT_.out (by kernel_rfl)) (fun _ _ _ h => h) (Or.inr ⟨by rfl, rfl⟩) ?_ ?_
    rotate_left
    ·simp only [Act.put, List.setIfInBounds_toArray, List.set_cons_zero, List.set_cons_succ, i64_w, i32_w]
     rfl
    refine pure_ (i := 10) (N := some 47) (v := undef) (a' := ?_) #[true, true, true, true, true, true, true, true, true, true, true, false, false, false, false, false, false, false, false, false, false, false, false, false, false, false, false, false] rfl rfl (any_of HT_.out (by kernel_rfl)) (fun _ _ _ h => h) (Or.inr ⟨by rfl, rfl⟩) ?_ ?_
    rotate_left
    ·simp only [Act.put, List.setIfInBounds_toArray, List.set_cons_zero, List.set_cons_succ, i64_w, i32_w]
     rfl
    refine pure_ (i := 11) (N := some 48) (v := ?_) (a' := ?_) #[true, true, true, true, true, true, true, true, true, true, true, true, false, false, false, false, false, false, false, false, false, false, false, false, false, false, false, false] rfl rfl (any_of HT_.out (by kernel_rfl)) (fun _ _ _ h => h) (Or.inl ⟨by rfl, ?_⟩) ?_ ?_
    rotate_left
    ·intro w'
     go_simp
     with_reducible rfl
    rotate_left
    ·simp only [Act.put, List.setIfInBounds_toArray, List.set_cons_zero, List.set_cons_succ, i64_w, i32_w]
     rfl
    refine pure_ (i := 12) (N := some 49) (v := ?_) (a' := ?_) #[true, true, true, true, true, true, true, true, true, true, true, true, true, false, false, false, false, false, false, false, false, false, false, false, false, false, false, false] rfl rfl (any_of HT_.out (by kernel_rfl)) (fun _ _ _ h => h) (Or.inl ⟨by rfl, ?_⟩) ?_ ?_
    rotate_left
    ·intro w'
     go_simp
     with_reducible rfl
    rotate_left
    ·simp only [Act.put, List.setIfInBounds_toArray, List.set_cons_zero, List.set_cons_succ, i64_w, i32_w]
     rfl
    refine pure_ (i := 13) (N := some 50) (v := undef) (a' := ?_) #[true, true, true, true, true, true, true, true, true, true, true, true, true, true, false, false, false, false, false, false, false, false, false, false, false, false, false, false] rfl rfl (any_of HT_.out (by kernel_rfl)) (fun _ _ _ h => h) (Or.inr ⟨by rfl, rfl⟩) ?_ ?_
    rotate_left
    ·simp only [Act.put, List.setIfInBounds_toArray, List.set_cons_zero, List.set_cons_succ, i64_w, i32_w]
     rfl
    refine pure_ (i := 14) (N := some 51) (v := undef) (a' := ?_) #[true, true, true, true, true, true, true, true, true, true, true, true, true, true, true, false, false, false, false, false, false, false, false, false, false, false, false, false] rfl rfl (any_of HT_.out (by kernel_rfl)) (fun _ _ _ h => h) (Or.inr ⟨by rfl, rfl⟩) ?_ ?_
    rotate_left
    ·simp only [Act.put, List.setIfInBounds_toArray, List.set_cons_zero, List.set_cons_succ, i64_w, i32_w]
     rfl
    refine pure_ (i := 15) (N := some 52) (v := undef) (a' := ?_) #[true, true, true, true, true, true, true, true, true, true, true, true, true, true, true, true, false, false, false, false, false, false, false, false, false, false, false, false] rfl rfl (any_of HT_.out (by kernel_rfl)) (fun _ _ _ h => h) (Or.inr ⟨by rfl, rfl⟩) ?_ ?_
    rotate_left
    ·simp only [Act.put, List.setIfInBounds_toArray, List.set_cons_zero, List.set_cons_succ, i64_w, i32_w]
     rfl
    refine pure_ (i := 16) (N := some 53) (v := undef) (a' := ?_) #[true, true, true, true, true, true, true, true, true, true, true, true, true, true, true, true, true, false, false, false, false, false, false, false, false, false, false, false] rfl rfl (any_of HT_.out (by kernel_rfl)) (fun _ _ _ h => h) (Or.inr ⟨by rfl, rfl⟩) ?_ ?_
    rotate_left
    ·simp only [Act.put, List.setIfInBounds_toArray, List.set_cons_zero, List.set_cons_succ, i64_w, i32_w]
     rfl
    refine pure_ (i := 17) (N := some 54) (v := undef) (a' := ?_) #[true, true, true, true, true, true, true, true, true, true, true, true, true, true, true, true, true, true, false, false, false, false, false, false, false, false, false, false] rfl rfl (any_of HT_.out (by kernel_rfl)) (fun _ _ _ h => h) (Or.inr ⟨by rfl, rfl⟩) ?_ ?_
    rotate_left
    ·simp only [Act.put, List.setIfInBounds_toArray, List.set_cons_zero, List.set_cons_succ, i64_w, i32_w]
     rfl
    refine pure_ (i := 18) (N := some 55) (v := ?_) (a' := ?_) #[true, true, true, true, true, true, true, true, true, true, true, true, true, true, true, true, true, true, true, false, false, false, false, false, false, false, false, false] rfl rfl (any_of HT_.out (by kernel_rfl)) (fun _ _ _ h => h) (Or.inl ⟨by rfl, ?_⟩) ?_ ?_
    rotate_left
    ·intro w'
     go_simp
     with_reducible rfl
    rotate_left
    ·simp only [Act.put, List.setIfInBounds_toArray, List.set_cons_zero, List.set_cons_succ, i64_w, i32_w]
     rfl
    refine pure_ (i := 19) (N := some 56) (v := ?_) (a' := ?_) #[true, true, true, true, true, true, true, true, true, true, true, true, true, true, true, true, true, true, true, true, false, false, false, false, false, false, false, false] rfl rfl (any_of HT_.out (by kernel_rfl)) (fun _ _ _ h => h) (Or.inl ⟨by rfl, ?_⟩) ?_ ?_
    rotate_left
    ·intro w'
     go_simp
     with_reducible rfl
    rotate_left
    ·simp only [Act.put, List.setIfInBounds_toArray, List.set_cons_zero, List.set_cons_succ, i64_w, i32_w]
     rfl
    refine pure_ (i := 20) (N := some 57) (v := undef) (a' := ?_) #[true, true, true, true, true, true, true, true, true, true, true, true, true, true, true, true, true, true, true, true, true, false, false, false, false, false, false, false] rfl rfl (any_of HT_.out (by kernel_rfl)) (fun _ _ _ h => h) (Or.inr ⟨by rfl, rfl⟩) ?_ ?_
    rotate_left
    ·simp only [Act.put, List.setIfInBounds_toArray, List.set_cons_zero, List.set_cons_succ, i64_w, i32_w]
     rfl
    refine pure_ (i := 21) (N := some 58) (v := undef) (a' := ?_) #[true, true, true, true, true, true, true, true, true, true, true, true, true, true, true, true, true, true, true, true, true, true, false, false, false, false, false, false] rfl rfl (any_of HT_.out (by kernel_rfl)) (fun _ _ _ h => h) (Or.inr ⟨by rfl, rfl⟩) ?_ ?_
    rotate_left
    ·simp only [Act.put, List.setIfInBounds_toArray, List.set_cons_zero, List.set_cons_succ, i64_w, i32_w]
     rfl
    refine pure_ (i := 22) (N := some 59) (v := undef) (a' := ?_) #[true, true, true, true, true, true, true, true, true, true, true, true, true, true, true, true, true, true, true, true, true, true, true, false, false, false, false, false] rfl rfl (any_of HT_.out (by kernel_rfl)) (fun _ _ _ h => h) (Or.inr ⟨by rfl, rfl⟩) ?_ ?_
    rotate_left
    ·simp only [Act.put, List.setIfInBounds_toArray, List.set_cons_zero, List.set_cons_succ, i64_w, i32_w]
     rfl
    refine pure_ (i := 23) (N := some 60) (v := undef) (a' := ?_) #[true, true, true, true, true, true, true, true, true, true, true, true, true, true, true, true, true, true, true, true, true, true, true, true, false, false, false, false] rfl rfl (any_of HT_.out (by kernel_rfl)) (fun _ _ _ h => h) (Or.inr ⟨by rfl, rfl⟩) ?_ ?_
    rotate_left
    ·simp only [Act.put, List.setIfInBounds_toArray, List.set_cons_zero, List.set_cons_succ, i64_w, i32_w]
     rfl
    refine pure_ (i := 24) (N := some 61) (v := undef) (a' := ?_) #[true, true, true, true, true, true, true, true, true, true, true, true, true, true, true, true, true, true, true, true, true, true, true, true, true, false, false, false] rfl rfl (any_of HT_.out (by kernel_rfl)) (fun _ _ _ h => h) (Or.inr ⟨by rfl, rfl⟩) ?_ ?_
    rotate_left
    ·simp only [Act.put, List.setIfInBounds_toArray, List.set_cons_zero, List.set_cons_succ, i64_w, i32_w]
     rfl
    refine pure_ (i := 25) (N := some 62) (v := undef) (a' := ?_) #[true, true, true, true, true, true, true, true, true, true, true, true, true, true, true, true, true, true, true, true, true, true, true, true, true, true, false, false] rfl rfl (any_of HT_.out (by kernel_rfl)) (fun _ _ _ h => h) (Or.inr ⟨by rfl, rfl⟩) ?_ ?_
    rotate_left
    ·simp only [Act.put, List.setIfInBounds_toArray, List.set_cons_zero, List.set_cons_succ, i64_w, i32_w]
     rfl
    refine pure_ (i := 26) (N := some 63) (v := ?_) (a' := ?_) #[true, true, true, true, true, true, true, true, true, true, true, true, true, true, true, true, true, true, true, true, true, true, true, true, true, true, true, false] rfl rfl (any_of HT_.out (by kernel_rfl)) (fun _ _ _ h => h) (Or.inl ⟨by rfl, ?_⟩) ?_ ?_
    rotate_left
    ·intro w'
     go_simp
     with_reducible rfl
    rotate_left
    ·simp only [Act.put, List.setIfInBounds_toArray, List.set_cons_zero, List.set_cons_succ, i64_w, i32_w]
     rfl
    refine pure_ (i := 27) (N := some 6) (v := ?_) (a' := ?_) #[true, true, true, true, true, true, true, true, true, true, true, true, true, true, true, true, true, true, true, true, true, true, true, true, true, true, true, true] rfl rfl (any_of HT_.out (by kernel_rfl)) (fun _ _ _ h => h) (Or.inl ⟨by rfl, ?_⟩) ?_ ?_
    rotate_left
    ·intro w'
     go_simp
     with_reducible rfl
    rotate_left
    ·simp only [Act.put, List.setIfInBounds_toArray, List.set_cons_zero, List.set_cons_succ, i64_w, i32_w]
     rfl
    refine done_ (done_of HT_.out (by kernel_rfl)) ?_
    try go_wp2
    go_ret
    exact ⟨by first | rfl | (simp [*, errW_none, errW_some] <;> rfl), HB.out⟩
  ·replace c8 := Bool.eq_false_iff.mpr c8
   subst c8
   replace H : (some false) = some r := by rw [if_neg (show ¬ (false = true) by decide)] at H; exact H
   obtain rfl := Option.some.inj H
   go_enter Tryd.func30, Tryd.ntmps30
   try go_wp2_with (first | ((with_reducible refine gate_callee (f := 62) rfl ?_); refine goesL_ (some 15) rfl rfl Tryd.func62 (by kernel_rfl) rfl #[.string a0] rfl (by (try simp only [List.map_toArray, List.map_cons, List.map_nil]); rfl) ?_; (with_reducible refine (impl_setOf.calls a0 t782 t785 false _ A4.out).mono ?_); rintro e w73 ⟨v783, v786, rfl, ho0, ho1, hb⟩; refine ⟨_, rfl, ?_⟩; have HO784 := Aside0.mk (Kd.R_lower ho0 (below_size HB.out)); have HO787 := Aside0.mk (Kd.R_lower ho1 (below_size HB.out)); replace HB := Aside0.mk (below_step HB.out hb); (try clear hb); (try clear ho0); (try clear ho1)) | ((with_reducible refine gate_dst (N := 7) rfl ?_); (try (refine gate_guard (by rfl) ?_; dsimp only)); refine box_event ?hg (N := 7) ?hd (cs := #[.slice none 0 0, .slice none 0 0]) (t := 49) ?hr ?_; (case hd => rfl); (case hg => rfl); (case hr => first | (go_simp; done)); intro gb789 hg w74 hbox hb; replace HO784 := Aside0.mk (Kd.R_below HO784.out hb); replace HO787 := Aside0.mk (Kd.R_below HO787.out hb); have BK789 := Aside0.mk hbox; have GW789 := Aside0.mk ((by rw [hg]; exact (below_size HB.out) : w.heap.size ≤ gb789)); have GE789 := Aside0.mk ((by rw [hg]; exact (below_size HB.out) : w.heap.size ≤ gb789)); replace HB := Aside0.mk (below_step HB.out hb); clear hb hbox hg; obtain ⟨Ao75, co75, eo75⟩ := Kd.R_slice HO784.out; subst eo75; have hcz76_0 : w74.cell? ⟨gb789, 0, none⟩ = some (.slice none 0 0) := (blk_cell BK789.out 0).trans rfl; have hcz76_1 : w74.cell? ⟨gb789, 1, none⟩ = some (.slice none 0 0) := (blk_cell BK789.out 1).trans rfl; have hfz76_0 := blk_frozen BK789.out 0; have hfz76_1 := blk_frozen BK789.out 1; obtain ⟨Ao77, co77, eo77⟩ := Kd.R_slice HO787.out; subst eo77) | ((with_reducible refine gate_callee (f := 62) rfl ?_); refine goesL_ (some 20) rfl rfl Tryd.func62 (by kernel_rfl) rfl #[.string a1] rfl (by (try simp only [List.map_toArray, List.map_cons, List.map_nil]); rfl) ?_; (with_reducible refine (impl_setOf.calls a1 t790 t793 t796 _ A5.out).mono ?_); rintro e w78 ⟨v791, v794, rfl, ho0, ho1, hb⟩; refine ⟨_, rfl, ?_⟩; have HO792 := Aside0.mk (Kd.R_lower (Kd.R_new' (Kd.R_new' ho0 (Kd.R_lt (by exact (Kd.R_mono (Kd.R_far (p := ⟨gb789, 1, none⟩) (Kd.R_far (p := ⟨gb789, 0, none⟩) (Kd.R_types HO784.out BK789.out (by decide)) (fun _ hk => hk.2) (.slice Ao75 t782.length co75)) (fun _ hk => hk.2) (.slice Ao77 t785.length co77)) (fun _ h_ => h_.1))))) (Kd.R_lt (by exact (Kd.R_mono (Kd.R_far (p := ⟨gb789, 1, none⟩) (Kd.R_far (p := ⟨gb789, 0, none⟩) (Kd.R_types HO787.out BK789.out (by decide)) (fun _ hk => hk.2) (.slice Ao75 t782.length co75)) (fun _ hk => hk.2) (.slice Ao77 t785.length co77)) (fun _ h_ => h_.1))))) (below_size (by repeat (first | (with_reducible first | exact HB.out | refine below_set ?_ GE789.out))))); have HO795 := Aside0.mk (Kd.R_lower (Kd.R_new' (Kd.R_new' ho1 (Kd.R_lt (by exact (Kd.R_mono (Kd.R_far (p := ⟨gb789, 1, none⟩) (Kd.R_far (p := ⟨gb789, 0, none⟩) (Kd.R_types HO784.out BK789.out (by decide)) (fun _ hk => hk.2) (.slice Ao75 t782.length co75)) (fun _ hk => hk.2) (.slice Ao77 t785.length co77)) (fun _ h_ => h_.1))))) (Kd.R_lt (by exact (Kd.R_mono (Kd.R_far (p := ⟨gb789, 1, none⟩) (Kd.R_far (p := ⟨gb789, 0, none⟩) (Kd.R_types HO787.out BK789.out (by decide)) (fun _ hk => hk.2) (.slice Ao75 t782.length co75)) (fun _ hk => hk.2) (.slice Ao77 t785.length co77)) (fun _ h_ => h_.1))))) (below_size (by repeat (first | (with_reducible first | exact HB.out | refine below_set ?_ GE789.out))))); replace HO784 := Aside0.mk (Kd.R_mono (Kd.R_told (Kd.R_told (Kd.R_old (by exact (Kd.R_mono (Kd.R_far (p := ⟨gb789, 1, none⟩) (Kd.R_far (p := ⟨gb789, 0, none⟩) (Kd.R_types HO784.out BK789.out (by decide)) (fun _ hk => hk.2) (.slice Ao75 t782.length co75)) (fun _ hk => hk.2) (.slice Ao77 t785.length co77)) (fun _ h_ => h_.1))) hb) (Kd.R_base ho0)) (Kd.R_base ho1)) (fun _ h_ => h_.1)); replace HO787 := Aside0.mk (Kd.R_mono (Kd.R_told (Kd.R_told (Kd.R_old (by exact (Kd.R_mono (Kd.R_far (p := ⟨gb789, 1, none⟩) (Kd.R_far (p := ⟨gb789, 0, none⟩) (Kd.R_types HO787.out BK789.out (by decide)) (fun _ hk => hk.2) (.slice Ao75 t782.length co75)) (fun _ hk => hk.2) (.slice Ao77 t785.length co77)) (fun _ h_ => h_.1))) hb) (Kd.R_base ho0)) (Kd.R_base ho1)) (fun _ h_ => h_.1)); replace BK789 := Aside0.mk (blk_below (g := gb789) (o := .cells #[.slice Ao75 t782.length co75, .slice Ao77 t785.length co77] 49 (0, 0)) (by refine blk_put (cs := #[.slice Ao75 t782.length co75, .slice none 0 0]) ?_ 1 _ rfl; refine blk_put (cs := #[.slice none 0 0, .slice none 0 0]) ?_ 0 _ rfl; exact BK789.out) hb); replace HB := Aside0.mk (below_step (by repeat (first | (with_reducible first | exact HB.out | refine below_set ?_ GE789.out))) hb); (try clear hb); (try clear ho0); (try clear ho1)) | ((with_reducible refine gate_dst (N := 9) rfl ?_); (try (refine gate_guard (by rfl) ?_; dsimp only)); refine box_event ?hg (N := 9) ?hd (cs := #[.slice none 0 0, .slice none 0 0]) (t := 49) ?hr ?_; (case hd => rfl); (case hg => rfl); (case hr => first | (go_simp; done)); intro gb797 hg w79 hbox hb; replace HO784 := Aside0.mk (Kd.R_below HO784.out hb); replace HO787 := Aside0.mk (Kd.R_below HO787.out hb); replace HO792 := Aside0.mk (Kd.R_below HO792.out hb); replace HO795 := Aside0.mk (Kd.R_below HO795.out hb); have BK797 := Aside0.mk hbox; have GW797 := Aside0.mk ((by rw [hg]; exact (below_size HB.out) : w.heap.size ≤ gb797)); have GE797 := Aside0.mk ((by rw [hg]; exact (below_size HB.out) : w.heap.size ≤ gb797)); replace HB := Aside0.mk (below_step HB.out hb); have NB789_797 := Aside0.mk ((by rw [hg]; exact Nat.ne_of_lt (blk_lt (g := gb789) (o := .cells #[.slice Ao75 t782.length co75, .slice Ao77 t785.length co77] 49 (0, 0)) BK789.out) : gb789 ≠ gb797)); have NB797_789 := Aside0.mk ((by rw [hg]; exact Nat.ne_of_gt (blk_lt (g := gb789) (o := .cells #[.slice Ao75 t782.length co75, .slice Ao77 t785.length co77] 49 (0, 0)) BK789.out) : gb797 ≠ gb789)); replace BK789 := Aside0.mk (blk_below (g := gb789) (o := .cells #[.slice Ao75 t782.length co75, .slice Ao77 t785.length co77] 49 (0, 0)) BK789.out hb); clear hb hbox hg; obtain ⟨Ao80, co80, eo80⟩ := Kd.R_slice HO792.out; subst eo80; have hnb81 := NB797_789.out; have hnc81 := NB789_797.out; have hcz82_0 : w79.cell? ⟨gb797, 0, none⟩ = some (.slice none 0 0) := (blk_cell BK797.out 0).trans rfl; have hcz82_1 : w79.cell? ⟨gb797, 1, none⟩ = some (.slice none 0 0) := (blk_cell BK797.out 1).trans rfl; have hfz82_0 := blk_frozen BK797.out 0; have hfz82_1 := blk_frozen BK797.out 1; obtain ⟨Ao83, co83, eo83⟩ := Kd.R_slice HO795.out; subst eo83) | ((with_reducible refine gate_callee (f := 48) rfl ?_); refine goesL_ (some 25) rfl rfl Tryd.func48 (by kernel_rfl) rfl #[.string a2, .string (⟨#[102, 105, 114, 115, 116]⟩ : ByteArray)] rfl (by (try simp only [List.map_toArray, List.map_cons, List.map_nil]); rfl) ?_; (with_reducible refine (impl_numbersOf.calls a2 (⟨#[102, 105, 114, 115, 116]⟩ : ByteArray) t798 true _ A6.out (GlobN.below hG (by repeat (first | (with_reducible first | exact HB.out | refine below_set ?_ GE797.out))))).mono ?_); rintro e w84 ⟨v800, rfl, ho0, hb⟩; refine ⟨_, rfl, ?_⟩; replace HO784 := Aside0.mk (Kd.R_below (by exact (Kd.R_mono (Kd.R_far (p := ⟨gb797, 1, none⟩) (Kd.R_far (p := ⟨gb797, 0, none⟩) (Kd.R_types HO784.out BK797.out (by decide)) (fun _ hk => hk.2) (.slice Ao80 t790.length co80)) (fun _ hk => hk.2) (.slice Ao83 t793.length co83)) (fun _ h_ => h_.1))) hb); replace HO787 := Aside0.mk (Kd.R_below (by exact (Kd.R_mono (Kd.R_far (p := ⟨gb797, 1, none⟩) (Kd.R_far (p := ⟨gb797, 0, none⟩) (Kd.R_types HO787.out BK797.out (by decide)) (fun _ hk => hk.2) (.slice Ao80 t790.length co80)) (fun _ hk => hk.2) (.slice Ao83 t793.length co83)) (fun _ h_ => h_.1))) hb); replace HO792 := Aside0.mk (Kd.R_below (by exact (Kd.R_mono (Kd.R_far (p := ⟨gb797, 1, none⟩) (Kd.R_far (p := ⟨gb797, 0, none⟩) (Kd.R_types HO792.out BK797.out (by decide)) (fun _ hk => hk.2) (.slice Ao80 t790.length co80)) (fun _ hk => hk.2) (.slice Ao83 t793.length co83)) (fun _ h_ => h_.1))) hb); replace HO795 := Aside0.mk (Kd.R_below (by exact (Kd.R_mono (Kd.R_far (p := ⟨gb797, 1, none⟩) (Kd.R_far (p := ⟨gb797, 0, none⟩) (Kd.R_types HO795.out BK797.out (by decide)) (fun _ hk => hk.2) (.slice Ao80 t790.length co80)) (fun _ hk => hk.2) (.slice Ao83 t793.length co83)) (fun _ h_ => h_.1))) hb); have HO801 := Aside0.mk (Kd.R_lower ho0 (below_size (by repeat (first | (with_reducible first | exact HB.out | refine below_set ?_ GE797.out))))); replace BK789 := Aside0.mk (blk_below (g := gb789) (o := .cells #[.slice Ao75 t782.length co75, .slice Ao77 t785.length co77] 49 (0, 0)) (by refine blk_far ?_ NB789_797.out _; refine blk_far ?_ NB789_797.out _; exact BK789.out) hb); replace BK797 := Aside0.mk (blk_below (g := gb797) (o := .cells #[.slice Ao80 t790.length co80, .slice Ao83 t793.length co83] 49 (0, 0)) (by refine blk_put (cs := #[.slice Ao80 t790.length co80, .slice none 0 0]) ?_ 1 _ rfl; refine blk_put (cs := #[.slice none 0 0, .slice none 0 0]) ?_ 0 _ rfl; exact BK797.out) hb); replace HB := Aside0.mk (below_step (by repeat (first | (with_reducible first | exact HB.out | refine below_set ?_ GE797.out))) hb); (try clear hb); (try clear ho0)))
   replace HO784 := Aside0.mk (Kd.R_drew HO784.out)
   replace HO787 := Aside0.mk (Kd.R_drew HO787.out)
   replace HO792 := Aside0.mk (Kd.R_drew HO792.out)
   replace HO795 := Aside0.mk (Kd.R_drew HO795.out)
   replace HO801 := Aside0.mk (Kd.R_drew HO801.out)
   replace BK789 := Aside0.mk (blk_drew BK789.out)
   replace BK797 := Aside0.mk (blk_drew BK797.out)
   replace HB := Aside0.mk (below_drew1 HB.out)
   refine start_ (n := 28) (S := fun w' => True) (ds := []) #[false, false, false, false, false, false, false, false, false, false, false, false, false, false, false, false, false, false, false, false, false, false, false, false, false, false, false, false] (by kernel_rfl) rfl rfl trivial (fun hHeld => ?_); refine with_tabW impl_ProofDifferIs.tab7 impl_ProofDifferIs.bits7 (fun HT_ HW_ => ?_)
   generalize w84.drew = w85 at HO784 HO787 HO792 HO795 HO801 BK789 BK797 HB hHeld ⊢
   refine pure_ (i := 0) (N := some 37) (v := ?_) (a' := ?_) #[true, false, false, false, false, false, false, false, false, false, false, false, false, false, false, false, false, false, false, false, false, false, false, false, false, false, false, false] rfl rfl (any_of HT_.out (by kernel_rfl)) (fun _ _ _ h => h) (Or.inl ⟨by rfl, ?_⟩) ?_ ?_
   rotate_left
   ·intro w'
    go_simp
    with_reducible rfl
   rotate_left
   ·simp only [Act.put, List.setIfInBounds_toArray, List.set_cons_zero, List.set_cons_succ, i64_w, i32_w]
    rfl
   refine pure_ (i := 1) (N := some 38) (v := ?_) (a' := ?_) #[true, true, false, false, false, false, false, false, false, false, false, false, false, false, false, false, false, false, false, false, false, false, false, false, false, false, false, false] rfl rfl (any_of HT_.out (by kernel_rfl)) (fun _ _ _ h => h) (Or.inl ⟨by rfl, ?_⟩) ?_ ?_
   rotate_left
   ·intro w'
    go_simp
    with_reducible rfl
   rotate_left
   ·simp only [Act.put, List.setIfInBounds_toArray, List.set_cons_zero, List.set_cons_succ, i64_w, i32_w]
    rfl
   refine pure_ (i := 2) (N := some 39) (v := undef) (a' := ?_) #[true, true, true, false, false, false, false, false, false, false, false, false, false, false, false, false, false, false, false, false, false, false, false, false, false, false, false, false] rfl rfl (any_of HT_.out (by kernel_rfl)) (fun _ _ _ h => h) (Or.inr ⟨by rfl, rfl⟩) ?_ ?_
   rotate_left
   ·simp only [Act.put, List.setIfInBounds_toArray, List.set_cons_zero, List.set_cons_succ, i64_w, i32_w]
    rfl
   refine pure_ (i := 3) (N := some 40) (v := ?_) (a' := ?_) #[true, true, true, true, false, false, false, false, false, false, false, false, false, false, false, false, false, false, false, false, false, false, false, false, false, false, false, false] rfl rfl (any_of HT_.out (by kernel_rfl)) (fun _ _ _ h => h) (Or.inl ⟨by rfl, ?_⟩) ?_ ?_
   rotate_left
   ·intro w'
    go_simp
    with_reducible rfl
   rotate_left
   ·simp only [Act.put, List.setIfInBounds_toArray, List.set_cons_zero, List.set_cons_succ, i64_w, i32_w]
    rfl
   refine pure_ (i := 4) (N := some 41) (v := ?_) (a' := ?_) #[true, true, true, true, true, false, false, false, false, false, false, false, false, false, false, false, false, false, false, false, false, false, false, false, false, false, false, false] rfl rfl (any_of HT_.out (by kernel_rfl)) (fun _ _ _ h => h) (Or.inl ⟨by rfl, ?_⟩) ?_ ?_
   rotate_left
   ·intro w'
    go_simp
    with_reducible rfl
   rotate_left
   ·simp only [Act.put, List.setIfInBounds_toArray, List.set_cons_zero, List.set_cons_succ, i64_w, i32_w]
    rfl
   refine pure_ (i := 5) (N := some 42) (v := undef) (a' := ?_) #[true, true, true, true, true, true, false, false, false, false, false, false, false, false, false, false, false, false, false, false, false, false, false, false, false, false, false, false] rfl rfl (any_of HT_.out (by kernel_rfl)) (fun _ _ _ h => h) (Or.inr ⟨by rfl, rfl⟩) ?_ ?_
   rotate_left
   ·simp only [Act.put, List.setIfInBounds_toArray, List.set_cons_zero, List.set_cons_succ, i64_w, i32_w]
    rfl
   refine pure_ (i := 6) (N := some 43) (v := ?_) (a' := ?_) #[true, true, true, true, true, true, true, false, false, false, false, false, false, false, false, false, false, false, false, false, false, false, false, false, false, false, false, false] rfl rfl (any_of HT_.out (by kernel_rfl)) (fun _ _ _ h => h) (Or.inl ⟨by rfl, ?_⟩) ?_ ?_
   rotate_left
   ·intro w'
    go_simp
    with_reducible rfl
   rotate_left
   ·simp only [Act.put, List.setIfInBounds_toArray, List.set_cons_zero, List.set_cons_succ, i64_w, i32_w]
    rfl
   refine pure_ (i := 7) (N := some 44) (v := ?_) (a' := ?_) #[true, true, true, true, true, true, true, true, false, false, false, false, false, false, false, false, false, false, false, false, false, false, false, false, false, false, false, false] rfl rfl (any_of HT_.out (by kernel_rfl)) (fun _ _ _ h => h) (Or.inl ⟨by rfl, ?_⟩) ?_ ?_
   rotate_left
   ·intro w'
    go_simp
    with_reducible rfl
   rotate_left
   ·simp only [Act.put, List.setIfInBounds_toArray, List.set_cons_zero, List.set_cons_succ, i64_w, i32_w]
    rfl
   refine pure_ (i := 8) (N := some 45) (v := undef) (a' := ?_) #[true, true, true, true, true, true, true, true, true, false, false, false, false, false, false, false, false, false, false, false, false, false, false, false, false, false, false, false] rfl rfl (any_of HT_.out (by kernel_rfl)) (fun _ _ _ h => h) (Or.inr ⟨by rfl, rfl⟩) ?_ ?_
   rotate_left
   ·simp only [Act.put, List.setIfInBounds_toArray, List.set_cons_zero, List.set_cons_succ, i64_w, i32_w]
    rfl
   refine pure_ (i := 9) (N := some 46) (v := undef) (a' := ?_) #[true, true, true, true, true, true, true, true, true, true, false, false, false, false, false, false, false, false, false, false, false, false, false, false, false, false, false, false] rfl rfl (any_of HT_.out (by kernel_rfl)) (fun _ _ _ h => h) (Or.inr ⟨by rfl, rfl⟩) ?_ ?_
   rotate_left
   ·simp only [Act.put, List.setIfInBounds_toArray, List.set_cons_zero, List.set_cons_succ, i64_w, i32_w]
    rfl
   refine pure_ (i := 10) (N := some 47) (v := undef) (a' := ?_) #[true, true, true, true, true, true, true, true, true, true, true, false, false, false, false, false, false, false, false, false, false, false, false, false, false, false, false, false] rfl rfl (any_of HT_.out (by kernel_rfl)) (fun _ _ _ h => h) (Or.inr ⟨by rfl, rfl⟩) ?_ ?_
   rotate_left
   ·simp only [Act.put, List.setIfInBounds_toArray, List.set_cons_zero, List.set_cons_succ, i64_w, i32_w]
    rfl
   refine pure_ (i := 11) (N := some 48) (v := ?_) (a' := ?_) #[true, true, true, true, true, true, true, true, true, true, true, true, false, false, false, false, false, false, false, false, false, false, false, false, false, false, false, false] rfl rfl (any_of HT_.out (by kernel_rfl)) (fun _ _ _ h => h) (Or.inl ⟨by rfl, ?_⟩) ?_ ?_
   rotate_left
   ·intro w'
    go_simp
    with_reducible rfl
   rotate_left
   ·simp only [Act.put, List.setIfInBounds_toArray, List.set_cons_zero, List.set_cons_succ, i64_w, i32_w]
    rfl
   refine pure_ (i := 12) (N := some 49) (v := ?_) (a' := ?_) #[true, true, true, true, true, true, true, true, true, true, true, true, true, false, false, false, false, false, false, false, false, false, false, false, false, false, false, false] rfl rfl (any_of HT_.out (by kernel_rfl)) (fun _ _ _ h => h) (Or.inl ⟨by rfl, ?_⟩) ?_ ?_
   rotate_left
   ·intro w'
    go_simp
    with_reducible rfl
   rotate_left
   ·simp only [Act.put, List.setIfInBounds_toArray, List.set_cons_zero, List.set_cons_succ, i64_w, i32_w]
    rfl
   refine pure_ (i := 13) (N := some 50) (v := undef) (a' := ?_) #[true, true, true, true, true, true, true, true, true, true, true, true, true, true, false, false, false, false, false, false, false, false, false, false, false, false, false, false] rfl rfl (any_of HT_.out (by kernel_rfl)) (fun _ _ _ h => h) (Or.inr ⟨by rfl, rfl⟩) ?_ ?_
   rotate_left
   ·simp only [Act.put, List.setIfInBounds_toArray, List.set_cons_zero, List.set_cons_succ, i64_w, i32_w]
    rfl
   refine pure_ (i := 14) (N := some 51) (v := undef) (a' := ?_) #[true, true, true, true, true, true, true, true, true, true, true, true, true, true, true, false, false, false, false, false, false, false, false, false, false, false, false, false] rfl rfl (any_of HT_.out (by kernel_rfl)) (fun _ _ _ h => h) (Or.inr ⟨by rfl, rfl⟩) ?_ ?_
   rotate_left
   ·simp only [Act.put, List.setIfInBounds_toArray, List.set_cons_zero, List.set_cons_succ, i64_w, i32_w]
    rfl
   refine pure_ (i := 15) (N := some 52) (v := undef) (a' := ?_) #[true, true, true, true, true, true, true, true, true, true, true, true, true, true, true, true, false, false, false, false, false, false, false, false, false, false, false, false] rfl rfl (any_of HT_.out (by kernel_rfl)) (fun _ _ _ h => h) (Or.inr ⟨by rfl, rfl⟩) ?_ ?_
   rotate_left
   ·simp only [Act.put, List.setIfInBounds_toArray, List.set_cons_zero, List.set_cons_succ, i64_w, i32_w]
    rfl
   refine pure_ (i := 16) (N := some 53) (v := undef) (a' := ?_) #[true, true, true, true, true, true, true, true, true, true, true, true, true, true, true, true, true, false, false, false, false, false, false, false, false, false, false, false] rfl rfl (any_of HT_.out (by kernel_rfl)) (fun _ _ _ h => h) (Or.inr ⟨by rfl, rfl⟩) ?_ ?_
   rotate_left
   ·simp only [Act.put, List.setIfInBounds_toArray, List.set_cons_zero, List.set_cons_succ, i64_w, i32_w]
    rfl
   refine pure_ (i := 17) (N := some 54) (v := undef) (a' := ?_) #[true, true, true, true, true, true, true, true, true, true, true, true, true, true, true, true, true, true, false, false, false, false, false, false, false, false, false, false] rfl rfl (any_of HT_.out (by kernel_rfl)) (fun _ _ _ h => h) (Or.inr ⟨by rfl, rfl⟩) ?_ ?_
   rotate_left
   ·simp only [Act.put, List.setIfInBounds_toArray, List.set_cons_zero, List.set_cons_succ, i64_w, i32_w]
    rfl
   refine pure_ (i := 18) (N := some 55) (v := ?_) (a' := ?_) #[true, true, true, true, true, true, true, true, true, true, true, true, true, true, true, true, true, true, true, false, false, false, false, false, false, false, false, false] rfl rfl (any_of HT_.out (by kernel_rfl)) (fun _ _ _ h => h) (Or.inl ⟨by rfl, ?_⟩) ?_ ?_
   rotate_left
   ·intro w'
    go_simp
    with_reducible rfl
   rotate_left
   ·simp only [Act.put, List.setIfInBounds_toArray, List.set_cons_zero, List.set_cons_succ, i64_w, i32_w]
    rfl
   refine pure_ (i := 19) (N := some 56) (v := ?_) (a' := ?_) #[true, true, true, true, true, true, true, true, true, true, true, true, true, true, true, true, true, true, true, true, false, false, false, false, false, false, false, false] rfl rfl (any_of HT_.out (by kernel_rfl)) (fun _ _ _ h => h) (Or.inl ⟨by rfl, ?_⟩) ?_ ?_
   rotate_left
   ·intro w'
    go_simp
    with_reducible rfl
   rotate_left
   ·simp only [Act.put, List.setIfInBounds_toArray, List.set_cons_zero, List.set_cons_succ, i64_w, i32_w]
    rfl
   refine pure_ (i := 20) (N := some 57) (v := undef) (a' := ?_) #[true, true, true, true, true, true, true, true, true, true, true, true, true, true, true, true, true, true, true, true, true, false, false, false, false, false, false, false] rfl rfl (any_of HT_.out (by kernel_rfl)) (fun _ _ _ h => h) (Or.inr ⟨by rfl, rfl⟩) ?_ ?_
   rotate_left
   ·simp only [Act.put, List.setIfInBounds_toArray, List.set_cons_zero, List.set_cons_succ, i64_w, i32_w]
    rfl
   refine pure_ (i := 21) (N := some 58) (v := undef) (a' := ?_) #[true, true, true, true, true, true, true, true, true, true, true, true, true, true, true, true, true, true, true, true, true, true, false, false, false, false, false, false] rfl rfl (any_of HT_.out (by kernel_rfl)) (fun _ _ _ h => h) (Or.inr ⟨by rfl, rfl⟩) ?_ ?_
   rotate_left
   ·simp only [Act.put, List.setIfInBounds_toArray, List.set_cons_zero, List.set_cons_succ, i64_w, i32_w]
    rfl
   refine pure_ (i := 22) (N := some 59) (v := undef) (a' := ?_) #[true, true, true, true, true, true, true, true, true, true, true, true, true, true, true, true, true, true, true, true, true, true, true, false, false, false, false, false] rfl rfl (any_of HT_.out (by kernel_rfl)) (fun _ _ _ h => h) (Or.inr ⟨by rfl, rfl⟩) ?_ ?_
   rotate_left
   ·simp only [Act.put, List.setIfInBounds_toArray, List.set_cons_zero, List.set_cons_succ, i64_w, i32_w]
    rfl
   refine pure_ (i := 23) (N := some 60) (v := undef) (a' := ?_) #[true, true, true, true, true, true, true, true, true, true, true, true, true, true, true, true, true, true, true, true, true, true, true, true, false, false, false, false] rfl rfl (any_of HT_.out (by kernel_rfl)) (fun _ _ _ h => h) (Or.inr ⟨by rfl, rfl⟩) ?_ ?_
   rotate_left
   ·simp only [Act.put, List.setIfInBounds_toArray, List.set_cons_zero, List.set_cons_succ, i64_w, i32_w]
    rfl
   refine pure_ (i := 24) (N := some 61) (v := undef) (a' := ?_) #[true, true, true, true, true, true, true, true, true, true, true, true, true, true, true, true, true, true, true, true, true, true, true, true, true, false, false, false] rfl rfl (any_of HT_.out (by kernel_rfl)) (fun _ _ _ h => h) (Or.inr ⟨by rfl, rfl⟩) ?_ ?_
   rotate_left
   ·simp only [Act.put, List.setIfInBounds_toArray, List.set_cons_zero, List.set_cons_succ, i64_w, i32_w]
    rfl
   refine pure_ (i := 25) (N := some 62) (v := undef) (a' := ?_) #[true, true, true, true, true, true, true, true, true, true, true, true, true, true, true, true, true, true, true, true, true, true, true, true, true, true, false, false] rfl rfl (any_of HT_.out (by kernel_rfl)) (fun _ _ _ h => h) (Or.inr ⟨by rfl, rfl⟩) ?_ ?_
   rotate_left
   ·simp only [Act.put, List.setIfInBounds_toArray, List.set_cons_zero, List.set_cons_succ, i64_w, i32_w]
    rfl
   refine pure_ (i := 26) (N := some 63) (v := ?_) (a' := ?_) #[true, true, true, true, true, true, true, true, true, true, true, true, true, true, true, true, true, true, true, true, true, true, true, true, true, true, true, false] rfl rfl (any_of HT_.out (by kernel_rfl)) (fun _ _ _ h => h) (Or.inl ⟨by rfl, ?_⟩) ?_ ?_
   rotate_left
   ·intro w'
    go_simp
    with_reducible rfl
   rotate_left
   ·simp only [Act.put, List.setIfInBounds_toArray, List.set_cons_zero, List.set_cons_succ, i64_w, i32_w]
    rfl
   refine pure_ (i := 27) (N := some 6) (v := ?_) (a' := ?_) #[true, true, true, true, true, true, true, true, true, true, true, true, true, true, true, true, true, true, true, true, true, true, true, true, true, true, true, true] rfl rfl (any_of HT_.out (by kernel_rfl)) (fun _ _ _ h => h) (Or.inl ⟨by rfl, ?_⟩) ?_ ?_
   rotate_left
   ·intro w'
    go_simp
    with_reducible rfl
   rotate_left
   ·simp only [Act.put, List.setIfInBounds_toArray, List.set_cons_zero, List.set_cons_succ, i64_w, i32_w]
    rfl
   refine done_ (done_of HT_.out (by kernel_rfl)) ?_
   try go_wp2
   go_ret
   exact ⟨by first | rfl | (simp [*, errW_none, errW_some] <;> rfl), HB.out⟩
 ·exfalso
  obtain ⟨l_, hl_⟩ := hv
  have := A6.out.symm.trans hl_
  simp only [Option.some.injEq, Prod.mk.injEq] at this
  exact c7 this.2

end Go.Proofs.YtinjblbfaijhdaaDoor.Q
