/- The program's TermSame returns what the reference's returns, for all arguments; no condition beyond the statement's own. -/
import Derived.LoopN
import Derived.Test.YtedhckahjinieaaCFnExactTermSame7
import Derived.Test.YtedhckahjinieaaCFnExactTermSame8
namespace Go.Proofs.Ytedhckahjinieaa.Q
open Go.RowKit Go.Proofs.YtedhckahjinieaaW.PrintWords Go.Proofs.YtedhckahjinieaaW.PrintLast Go.Proofs.YtedhckahjinieaaW.PrintMore
attribute [local go_sem] max2_int min2_int max_two min_two max_three min_three max_four min_four   -- for this text's walks alone
set_option linter.unusedVariables false
set_option linter.unusedSimpArgs false
/-- A term: a sign, a sign and a term, a sign and two terms. -/
inductive Tm where
 | leaf (c : Int)
 | un (c : Int) (a : Tm)
 | bin (c : Int) (a b : Tm)
/-- A term in memory, in blocks from lo on, below hi. -/
def Tm.At (w : World) (lo hi : Nat) : Tm → Value → Prop
 | .leaf c, v => ∃ g, lo ≤ g ∧ g < hi ∧ v = .pointer (some ⟨g, 0, none⟩) ∧ w.heap[g]? = some (.cells #[.int .u8 c, .slice none 0 0] 72 (0, 0))
 | .un c a, v => ∃ g h n cs x, lo ≤ g ∧ g < hi ∧ lo ≤ h ∧ h < hi ∧ v = .pointer (some ⟨g, 0, none⟩) ∧ w.heap[g]? = some (.cells #[.int .u8 c, .slice (some ⟨h, 0, none⟩) 1 n] 72 (0, 0)) ∧ w.heap[h]? = some (.cells cs 42 (0, 0)) ∧ cs[0]? = some x ∧ a.At w lo hi x
 | .bin c a b, v => ∃ g h n cs x y, lo ≤ g ∧ g < hi ∧ lo ≤ h ∧ h < hi ∧ v = .pointer (some ⟨g, 0, none⟩) ∧ w.heap[g]? = some (.cells #[.int .u8 c, .slice (some ⟨h, 0, none⟩) 2 n] 72 (0, 0)) ∧ w.heap[h]? = some (.cells cs 42 (0, 0)) ∧ cs[0]? = some x ∧ cs[1]? = some y ∧ a.At w lo hi x ∧ b.At w lo hi y
theorem Tm.At.keep {w w' : World} {lo hi : Nat} (hk : ∀ i, lo ≤ i → i < hi → w'.heap[i]? = w.heap[i]?) : ∀ {t : Tm} {v : Value}, t.At w lo hi v → t.At w' lo hi v := by
 intro t
 induction t with
 | leaf c => rintro v ⟨g, h1, h2, rfl, h3⟩; exact ⟨g, h1, h2, rfl, (hk g h1 h2).trans h3⟩
 | un c a ih => rintro v ⟨g, h, n, cs, x, h1, h2, h3, h4, rfl, h5, h6, h7, h8⟩; exact ⟨g, h, n, cs, x, h1, h2, h3, h4, rfl, (hk g h1 h2).trans h5, (hk h h3 h4).trans h6, h7, ih h8⟩
 | bin c a b ih1 ih2 => rintro v ⟨g, h, n, cs, x, y, h1, h2, h3, h4, rfl, h5, h6, h7, h8, h9, h10⟩; exact ⟨g, h, n, cs, x, y, h1, h2, h3, h4, rfl, (hk g h1 h2).trans h5, (hk h h3 h4).trans h6, h7, h8, ih1 h9, ih2 h10⟩
theorem Tm.At.below {w w' : World} {lo hi : Nat} (hb : Below w.heap.size w w') : ∀ {t : Tm} {v : Value}, t.At w lo hi v → t.At w' lo hi v := by
 intro t
 induction t with
 | leaf c => rintro v ⟨g, h1, h2, rfl, h3⟩; exact ⟨g, h1, h2, rfl, blk_below h3 hb⟩
 | un c a ih => rintro v ⟨g, h, n, cs, x, h1, h2, h3, h4, rfl, h5, h6, h7, h8⟩; exact ⟨g, h, n, cs, x, h1, h2, h3, h4, rfl, blk_below h5 hb, blk_below h6 hb, h7, ih h8⟩
 | bin c a b ih1 ih2 => rintro v ⟨g, h, n, cs, x, y, h1, h2, h3, h4, rfl, h5, h6, h7, h8, h9, h10⟩; exact ⟨g, h, n, cs, x, y, h1, h2, h3, h4, rfl, blk_below h5 hb, blk_below h6 hb, h7, h8, ih1 h9, ih2 h10⟩
theorem Tm.At.mono {w : World} {lo hi lo' hi' : Nat} (hl : lo' ≤ lo) (hh : hi ≤ hi') : ∀ {t : Tm} {v : Value}, t.At w lo hi v → t.At w lo' hi' v := by
 intro t
 induction t with
 | leaf c => rintro v ⟨g, h1, h2, rfl, h3⟩; exact ⟨g, by omega, by omega, rfl, h3⟩
 | un c a ih => rintro v ⟨g, h, n, cs, x, h1, h2, h3, h4, rfl, h5, h6, h7, h8⟩; exact ⟨g, h, n, cs, x, by omega, by omega, by omega, by omega, rfl, h5, h6, h7, ih h8⟩
 | bin c a b ih1 ih2 => rintro v ⟨g, h, n, cs, x, y, h1, h2, h3, h4, rfl, h5, h6, h7, h8, h9, h10⟩; exact ⟨g, h, n, cs, x, y, by omega, by omega, by omega, by omega, rfl, h5, h6, h7, h8, ih1 h9, ih2 h10⟩
theorem Tm.At.ptr {w : World} {lo hi : Nat} {t : Tm} {v : Value} (h : t.At w lo hi v) : ∃ g, lo ≤ g ∧ g < hi ∧ v = .pointer (some ⟨g, 0, none⟩) := by
 cases t with
 | leaf c => obtain ⟨g, h1, h2, h3, _⟩ := h; exact ⟨g, h1, h2, h3⟩
 | un c a => obtain ⟨g, _, _, _, _, h1, h2, _, _, h3, _⟩ := h; exact ⟨g, h1, h2, h3⟩
 | bin c a b => obtain ⟨g, _, _, _, _, _, h1, h2, _, _, h3, _⟩ := h; exact ⟨g, h1, h2, h3⟩
/-- What is taken from the beginning of a text: a term, and what is left. -/
def Tm.parse : Nat → ByteArray → Option (Tm × ByteArray)
 | 0, _ => none
 | n + 1, s =>
  if s.size = 0 then none
  else if bt s 0 = 48 ∨ bt s 0 = 49 ∨ bt s 0 = 97 then some (.leaf (bt s 0), s.extract 1 s.size)
  else if bt s 0 = 42 ∨ (50 ≤ bt s 0 ∧ bt s 0 ≤ 53) then (Tm.parse n (s.extract 1 s.size)).bind fun x => some (.un (bt s 0) x.1, x.2)
  else if bt s 0 = 40 then (Tm.parse n (s.extract 1 s.size)).bind fun x => if x.2.size = 0 then none else if bt x.2 0 = 43 ∨ bt x.2 0 = 46 ∨ bt x.2 0 = 38 then
    (Tm.parse n (x.2.extract 1 x.2.size)).bind fun y => if y.2.size = 0 then none else if bt y.2 0 = 41 then some (.bin (bt x.2 0) x.1 y.1, y.2.extract 1 y.2.size) else none
   else none
  else none
theorem impl_parse.isEmpty (s : ByteArray) : s.toList.isEmpty = decide (s.size = 0) := by
 rw [Lib.toList_data, show s.size = s.data.toList.length from Array.length_toList.symm]
 cases s.data.toList <;> simp
set_option maxHeartbeats 2000000 in
set_option maxRecDepth 100000 in
theorem impl_parse.empty (s : ByteArray) (w : World) (h : s.size = 0) : Calls Try.prog 39 #[.string s] w fun e w' => e = .returned (.tuple #[.pointer none, .string ⟨#[]⟩]) ∧ Below w.heap.size w w' := by
 have h0 : s.toList.isEmpty = true := by rw [impl_parse.isEmpty, decide_eq_true h]
 go_enter Try.func39, Try.ntmps39
 go_wp2
 go_ret2
 exact ⟨rfl, Below.refl _ _⟩
set_option maxHeartbeats 2000000 in
set_option maxRecDepth 100000 in
theorem impl_parse.leaf (s : ByteArray) (w : World) (h : ¬ s.size = 0) (c : Int) (hc : bt s 0 = c) (hs : c = 48 ∨ c = 49 ∨ c = 97) : Calls Try.prog 39 #[.string s] w fun e w' => ∃ v, e = .returned (.tuple #[v, .string (s.extract 1 s.size)]) ∧ (Tm.leaf c).At w' w.heap.size w'.heap.size v ∧ Below w.heap.size w w' := by
 have h0 : s.toList.isEmpty = false := by rw [impl_parse.isEmpty, decide_eq_false h]
 have hsz : 0 < s.size := by omega
 have hx : ∀ h : 0 < s.size, ((s[0]'h).toNat : Int) = c := fun h' => by rw [← hc]; exact bt_at s 0 h'
 clear hc h
 rcases hs with rfl | rfl | rfl
 all_goals
  go_enter Try.func39, Try.ntmps39
  go_wp2
  go_region
  try go_wp2
  go_ret2
  exact ⟨_, rfl, ⟨w.heap.size, Nat.le_refl _, by simp, rfl, kD (blk_new w _)⟩, b1 (bA (Below.refl _ _) _)⟩
/-- What no term begins with. -/
theorem impl_parse.bad (s : ByteArray) (w : World) (h : ¬ s.size = 0) (c : Int) (hc : bt s 0 = c) (hs : ¬ (c = 48 ∨ c = 49 ∨ c = 97)) (hs2 : ¬ (c = 42 ∨ (50 ≤ c ∧ c ≤ 53))) (hs3 : ¬ c = 40) : Calls Try.prog 39 #[.string s] w fun e w' => e = .returned (.tuple #[.pointer none, .string ⟨#[]⟩]) ∧ Below w.heap.size w w' := by
 have h0 : s.toList.isEmpty = false := by rw [impl_parse.isEmpty, decide_eq_false h]
 have hsz : 0 < s.size := by omega
 have hr := bt_range s 0
 have hx : ∀ h : 0 < s.size, ((s[0]'h).toNat : Int) = c := fun h' => by rw [← hc]; exact bt_at s 0 h'
 have n1 : (c == 48) = false := beq_eq_false_iff_ne.mpr (by omega)
 have n2 : (c == 49) = false := beq_eq_false_iff_ne.mpr (by omega)
 have n3 : (c == 97) = false := beq_eq_false_iff_ne.mpr (by omega)
 have n4 : (c == 42) = false := beq_eq_false_iff_ne.mpr (by omega)
 have n5 : (c == 40) = false := beq_eq_false_iff_ne.mpr (by omega)
 have hw : wrap64 c = c := by unfold wrap64; omega
 have C := aM (fun W => impl_in.calls c 50 53 false W (by unfold impl_in.f; by_cases g : c ≥ 50 <;> simp [g] <;> omega))
 clear hc h hs hs2 hs3 hr
 go_enter Try.func39, Try.ntmps39
 go_wp2_with (go_at_call 26; refine (C.out _).mono ?_; rintro e w' ⟨rfl, hd⟩; have hb := aM (Drawn0.below hd); clear hd)
 go_ret2
 exact ⟨rfl, below_step (bA (Below.refl _ _) _) hb.out⟩
/-- A sign and no term. -/
theorem impl_parse.un_no (s : ByteArray) (w : World) (h : ¬ s.size = 0) (c : Int) (hc : bt s 0 = c) (hs : c = 42 ∨ (50 ≤ c ∧ c ≤ 53)) (ih : ∀ W, Calls Try.prog 39 #[.string (s.extract 1 s.size)] W fun e w' => e = .returned (.tuple #[.pointer none, .string ⟨#[]⟩]) ∧ Below W.heap.size W w') :
  Calls Try.prog 39 #[.string s] w fun e w' => e = .returned (.tuple #[.pointer none, .string ⟨#[]⟩]) ∧ Below w.heap.size w w' := by
 have h0 : s.toList.isEmpty = false := by rw [impl_parse.isEmpty, decide_eq_false h]
 have hsz : 0 < s.size := by omega
 have hr := bt_range s 0
 have hx : ∀ h : 0 < s.size, ((s[0]'h).toNat : Int) = c := fun h' => by rw [← hc]; exact bt_at s 0 h'
 have n1 : (c == 48) = false := beq_eq_false_iff_ne.mpr (by omega)
 have n2 : (c == 49) = false := beq_eq_false_iff_ne.mpr (by omega)
 have n3 : (c == 97) = false := beq_eq_false_iff_ne.mpr (by omega)
 have hw : wrap64 c = c := by unfold wrap64; omega
 have IH := aM ih
 clear ih
 by_cases c42 : c = 42
 ·have n4 : (c == 42) = true := beq_iff_eq.mpr c42
  clear hc h hs hr c42
  go_enter Try.func39, Try.ntmps39
  go_wp2
  refine wp_loop_rounds 2 ?_
  rw [rounds_succ]
  go_wp2_with (go_at_call 39; refine (IH.out _).mono ?_; rintro e w' ⟨rfl, hd⟩; have hb := aM hd; clear hd)
  go_ret2
  exact ⟨rfl, below_step (bA (Below.refl _ _) _) hb.out⟩
 ·have n4 : (c == 42) = false := beq_eq_false_iff_ne.mpr c42
  have C := aM (fun W => impl_in.calls c 50 53 true W (by unfold impl_in.f; by_cases g : c ≥ 50 <;> simp [g] <;> omega))
  clear hc h hs hr c42
  go_enter Try.func39, Try.ntmps39
  go_wp2_with (go_at_call 26; refine (C.out _).mono ?_; rintro e w' ⟨rfl, hd⟩; have hb0 := aM (Drawn0.below hd); clear hd)
  refine wp_loop_rounds 2 ?_
  rw [rounds_succ]
  go_wp2_with (go_at_call 39; refine (IH.out _).mono ?_; rintro e w' ⟨rfl, hd⟩; have hb := aM hd; clear hd)
  go_ret2
  exact ⟨rfl, below_step (below_step (bA (Below.refl _ _) _) hb0.out) hb.out⟩
def impl_parse.ptrK : Kd Nat := Kd.scalar (fun g : Nat => Value.pointer (some ⟨g, 0, none⟩)) (fun _ => rfl)
theorem impl_parse.infoP : (Try.prog.info? 42).map (fun i => (i.zero, i.size, i.bytes)) = some (some (.pointer none), 1, 8) := by kernel_rfl
/-- A row of pointers, cell by cell. -/
theorem impl_parse.row {w : World} {base : Nat} {ok : Nat → Prop} {v : Value} {xs : List Nat} (h : impl_parse.ptrK.R 42 w base ok v xs) (hp : 0 < xs.length) : ∃ h n cs, v = .slice (some ⟨h, 0, none⟩) xs.length n ∧ base ≤ h ∧ h < w.heap.size ∧ w.heap[h]? = some (.cells cs 42 (0, 0)) ∧ ∀ i, i < xs.length → cs[i]? = some (.pointer (some ⟨xs.getD i 0, 0, none⟩)) := by
 obtain ⟨g, cap, rfl, h1, h2, cells, h3⟩ := Kd.R_form h hp
 refine ⟨g, cap, cells, rfl, h1, h2, h3, fun i hi => ?_⟩
 obtain ⟨ad, c, e, _, hk, hc⟩ := Kd.C_get (Kd.R_reads' h).2.2 (0 : Nat) (i : Int) (by omega) (by omega)
 obtain rfl := Option.some.inj e
 have hk' : c = [Value.pointer (some ⟨xs.getD i 0, 0, none⟩)] := hk
 have := hc 0 (.pointer (some ⟨xs.getD i 0, 0, none⟩)) (by rw [hk']; rfl)
 rw [show ((i : Int).toNat * impl_parse.ptrK.sz + 0) = i by simp [impl_parse.ptrK, Kd.scalar], add_plain, blk_cell h3] at this
 exact this
theorem impl_parse.row1 {w : World} {base : Nat} {ok : Nat → Prop} {v : Value} {p : Nat} (h : impl_parse.ptrK.R 42 w base ok v [p]) : ∃ h n cs, v = .slice (some ⟨h, 0, none⟩) 1 n ∧ base ≤ h ∧ h < w.heap.size ∧ w.heap[h]? = some (.cells cs 42 (0, 0)) ∧ cs[0]? = some (.pointer (some ⟨p, 0, none⟩)) := by
 obtain ⟨h, n, cs, h1, h2, h3, h4, h5⟩ := impl_parse.row h (by simp)
 exact ⟨h, n, cs, h1, h2, h3, h4, h5 0 (by simp)⟩
theorem impl_parse.row2 {w : World} {base : Nat} {ok : Nat → Prop} {v : Value} {p q : Nat} (h : impl_parse.ptrK.R 42 w base ok v [p, q]) : ∃ h n cs, v = .slice (some ⟨h, 0, none⟩) 2 n ∧ base ≤ h ∧ h < w.heap.size ∧ w.heap[h]? = some (.cells cs 42 (0, 0)) ∧ cs[0]? = some (.pointer (some ⟨p, 0, none⟩)) ∧ cs[1]? = some (.pointer (some ⟨q, 0, none⟩)) := by
 obtain ⟨h, n, cs, h1, h2, h3, h4, h5⟩ := impl_parse.row h (by simp)
 exact ⟨h, n, cs, h1, h2, h3, h4, h5 0 (by simp), h5 1 (by simp)⟩
theorem impl_parse.un_at {w w1 W : World} {g h n lo : Nat} {c : Int} {cs : Array Value} {a : Tm} {x : Value} (hg : g = w.heap.size) (HB : Below w.heap.size w w1) (hlo : g < lo) (HAT : a.At w1 lo w1.heap.size x) (HG : Below w1.heap.size w1 W)
  (BR : W.heap[g]? = some (.cells #[.int .u8 c, .slice none 0 0] 72 (0, 0))) (hb : w1.heap.size ≤ h) (RR : W.heap[h]? = some (.cells cs 42 (0, 0))) (RX : cs[0]? = some x) :
  (Tm.un c a).At (W.setCell ⟨g, 1, none⟩ (.slice (some ⟨h, 0, none⟩) 1 n)) w.heap.size (W.setCell ⟨g, 1, none⟩ (.slice (some ⟨h, 0, none⟩) 1 n)).heap.size (.pointer (some ⟨g, 0, none⟩)) ∧ Below w.heap.size w (W.setCell ⟨g, 1, none⟩ (.slice (some ⟨h, 0, none⟩) 1 n)) := by
 have s1 := HB.size
 have s2 := HG.size
 have l1 := blk_lt BR
 have l2 := blk_lt RR
 have far : ∀ i, i ≠ g → (W.setCell ⟨g, 1, none⟩ (.slice (some ⟨h, 0, none⟩) 1 n)).heap[i]? = W.heap[i]? := fun i hi => Below.heap_setCell W ⟨g, 1, none⟩ _ i hi
 have hs : (W.setCell ⟨g, 1, none⟩ (.slice (some ⟨h, 0, none⟩) 1 n)).heap.size = W.heap.size := by simp [World.setCell]
 have hat := HAT.keep (w' := W.setCell ⟨g, 1, none⟩ (.slice (some ⟨h, 0, none⟩) 1 n)) (fun i h1 h2 => (far i (by omega)).trans (HG.block i h2))
 by_cases hgl : g < w1.heap.size
 ·refine ⟨⟨g, h, n, cs, x, by omega, by omega, by omega, by omega, rfl, blk_set BR 1 _, (far h (by omega)).trans RR, RX, hat.mono (by omega) (by omega)⟩, (HB.trans ⟨HG.os, HG.tape, HG.output, HG.size, fun i hi => HG.block i (by omega)⟩).setCell (p := ⟨g, 1, none⟩) (by show w.heap.size ≤ g; omega) _⟩
 ·obtain ⟨p, p1, p2, _⟩ := HAT.ptr
  omega
set_option maxHeartbeats 4000000 in
set_option maxRecDepth 100000 in
theorem impl_parse.un_yes (s : ByteArray) (w : World) (h : ¬ s.size = 0) (c : Int) (hc : bt s 0 = c) (hs : c = 42 ∨ (50 ≤ c ∧ c ≤ 53)) (a : Tm) (r : ByteArray) (ih : ∀ W, Calls Try.prog 39 #[.string (s.extract 1 s.size)] W fun e w' => ∃ v, e = .returned (.tuple #[v, .string r]) ∧ a.At w' W.heap.size w'.heap.size v ∧ Below W.heap.size W w') :
  Calls Try.prog 39 #[.string s] w fun e w' => ∃ v, e = .returned (.tuple #[v, .string r]) ∧ (Tm.un c a).At w' w.heap.size w'.heap.size v ∧ Below w.heap.size w w' := by
 have h0 : s.toList.isEmpty = false := by rw [impl_parse.isEmpty, decide_eq_false h]
 have hsz : 0 < s.size := by omega
 have hr := bt_range s 0
 have hx : ∀ h : 0 < s.size, ((s[0]'h).toNat : Int) = c := fun h' => by rw [← hc]; exact bt_at s 0 h'
 have n1 : (c == 48) = false := beq_eq_false_iff_ne.mpr (by omega)
 have n2 : (c == 49) = false := beq_eq_false_iff_ne.mpr (by omega)
 have n3 : (c == 97) = false := beq_eq_false_iff_ne.mpr (by omega)
 have hw : wrap64 c = c := by unfold wrap64; omega
 have IH := aM ih
 clear ih
 by_cases c42 : c = 42
 ·have n4 : (c == 42) = true := beq_iff_eq.mpr c42
  clear hc h hs hr c42
  go_enter Try.func39, Try.ntmps39
  go_wp2
  refine wp_loop_rounds 2 ?_
  rw [rounds_succ]
  go_wp2_with (first | (go_at_call 39; refine (IH.out _).mono ?_; rintro e w1 ⟨v1, rfl, hat, hb⟩; obtain ⟨p1, hp1, hq1, rfl⟩ := hat.ptr; have HAT1 := aM hat; have BT1 := aM (blk_below (blk_new w (.cells #[.int .u8 c, .slice none 0 0] 72)) hb); have HB1 := aM (below_step (bA (Below.refl _ w) (.cells #[.int .u8 c, .slice none 0 0] 72)) hb); have e10 := blk_cell BT1.out 0; have e11 := blk_cell BT1.out 1; have f10 := blk_frozen BT1.out 0; have f11 := blk_frozen BT1.out 1; clear hat hb) | ((with_reducible refine gate_builtin (b := .append) (xs := #[.tmp 65, .tmp 67]) rfl ?_); at_builtin; refine Kd.R_append impl_parse.ptrK (w0 := w1) w1.heap.size rfl (.tmp 65) (.tmp 67) 70 42 (.pointer none) 8 rfl Try.underlying70 impl_parse.infoP rfl (by decide) (by omega) (.slice none 0 0) ([] : List Nat) p1 [.pointer (some ⟨p1, 0, none⟩)] (fun _ => True) (fun _ => False) rfl rfl ?aP (fun _ hk => hk.elim) ?aF ?aO ?aB ?aS ?aL ?_; (case aP => exact rfl); (case aB => exact (Below.refl _ w1)); (case aF => exact (fun _ _ => trivial)); (case aO => exact (Kd.R_nil _ _ _ _ _)); (case aS => exact (Nat.le_refl _)); (case aL => simp); intro v1_ w1_ ho hb hg hat; obtain ⟨rh1, rn1, rc1, rfl, rb1, rl1, rr1, rx1⟩ := impl_parse.row1 ho; have HR1 := aM ho; have RR1 := aM rr1; have RX1 := aM rx1; clear rr1 rx1; have HG1 := aM hb; have BR1 := aM (blk_grown BT1.out hg (by simp [Value.ownBlock])); have c11 := blk_cell BR1.out 1; have c10 := blk_cell BR1.out 0; have d11 := blk_frozen BR1.out 1; have d10 := blk_frozen BR1.out 0; clear ho hb hg hat))
  rw [rounds_succ]
  go_wp2
  go_ret2
  obtain ⟨k1, k2⟩ := impl_parse.un_at (n := rn1) rfl HB1.out (Nat.lt_of_lt_of_le (blk_lt (blk_new w (.cells #[.int .u8 c, .slice none 0 0] 72))) (Nat.le_refl _)) HAT1.out HG1.out BR1.out rb1 RR1.out RX1.out
  exact ⟨_, rfl, k1, k2⟩
 ·have n4 : (c == 42) = false := beq_eq_false_iff_ne.mpr c42
  have C := aM (fun W => impl_in.calls c 50 53 true W (by unfold impl_in.f; by_cases g : c ≥ 50 <;> simp [g] <;> omega))
  clear hc h hs hr c42
  go_enter Try.func39, Try.ntmps39
  go_wp2_with (go_at_call 26; refine (C.out _).mono ?_; rintro e wi ⟨rfl, hd⟩; have hb := Drawn0.below hd; have BT0 := aM (blk_below (blk_new w (.cells #[.int .u8 c, .slice none 0 0] 72)) hb); have HB0 := aM (below_step (bA (Below.refl _ w) (.cells #[.int .u8 c, .slice none 0 0] 72)) hb); clear hd hb)
  refine wp_loop_rounds 2 ?_
  rw [rounds_succ]
  go_wp2_with (first | (go_at_call 39; refine (IH.out _).mono ?_; rintro e w1 ⟨v1, rfl, hat, hb⟩; obtain ⟨p1, hp1, hq1, rfl⟩ := hat.ptr; have HAT1 := aM hat; have BT1 := aM (blk_below BT0.out hb); have HB1 := aM (below_step HB0.out hb); have e10 := blk_cell BT1.out 0; have e11 := blk_cell BT1.out 1; have f10 := blk_frozen BT1.out 0; have f11 := blk_frozen BT1.out 1; clear hat hb) | ((with_reducible refine gate_builtin (b := .append) (xs := #[.tmp 65, .tmp 67]) rfl ?_); at_builtin; refine Kd.R_append impl_parse.ptrK (w0 := w1) w1.heap.size rfl (.tmp 65) (.tmp 67) 70 42 (.pointer none) 8 rfl Try.underlying70 impl_parse.infoP rfl (by decide) (by omega) (.slice none 0 0) ([] : List Nat) p1 [.pointer (some ⟨p1, 0, none⟩)] (fun _ => True) (fun _ => False) rfl rfl ?aP (fun _ hk => hk.elim) ?aF ?aO ?aB ?aS ?aL ?_; (case aP => exact rfl); (case aB => exact (Below.refl _ w1)); (case aF => exact (fun _ _ => trivial)); (case aO => exact (Kd.R_nil _ _ _ _ _)); (case aS => exact (Nat.le_refl _)); (case aL => simp); intro v1_ w1_ ho hb hg hat; obtain ⟨rh1, rn1, rc1, rfl, rb1, rl1, rr1, rx1⟩ := impl_parse.row1 ho; have HR1 := aM ho; have RR1 := aM rr1; have RX1 := aM rx1; clear rr1 rx1; have HG1 := aM hb; have BR1 := aM (blk_grown BT1.out hg (by simp [Value.ownBlock])); have c11 := blk_cell BR1.out 1; have c10 := blk_cell BR1.out 0; have d11 := blk_frozen BR1.out 1; have d10 := blk_frozen BR1.out 0; clear ho hb hg hat))
  rw [rounds_succ]
  go_wp2
  go_ret2
  obtain ⟨k1, k2⟩ := impl_parse.un_at (n := rn1) rfl HB1.out (Nat.lt_of_lt_of_le (blk_lt BT0.out) (Nat.le_refl _)) HAT1.out HG1.out BR1.out rb1 RR1.out RX1.out
  exact ⟨_, rfl, k1, k2⟩
/-- One part is read and stored. -/
def impl_parse.One (w W : World) (c : Int) (a : Tm) (p rh rn : Nat) : Prop := ∃ base, Below w.heap.size w W ∧ w.heap.size < base ∧ base ≤ W.heap.size ∧ W.heap[w.heap.size]? = some (.cells #[.int .u8 c, .slice (some ⟨rh, 0, none⟩) 1 rn] 72 (0, 0)) ∧ a.At W (w.heap.size + 1) base (.pointer (some ⟨p, 0, none⟩)) ∧ impl_parse.ptrK.R 42 W base (fun _ => True) (.slice (some ⟨rh, 0, none⟩) 1 rn) [p]
theorem impl_parse.One.below {w W : World} {c : Int} {a : Tm} {p rh rn : Nat} (h : impl_parse.One w W c a p rh rn) : Below w.heap.size w W := by obtain ⟨_, h, _⟩ := h; exact h
theorem impl_parse.One.blk {w W : World} {c : Int} {a : Tm} {p rh rn : Nat} (h : impl_parse.One w W c a p rh rn) : W.heap[w.heap.size]? = some (.cells #[.int .u8 c, .slice (some ⟨rh, 0, none⟩) 1 rn] 72 (0, 0)) := by obtain ⟨_, _, _, _, h, _⟩ := h; exact h
theorem impl_parse.One.lt {w W : World} {c : Int} {a : Tm} {p rh rn : Nat} (h : impl_parse.One w W c a p rh rn) : rh < W.heap.size := by obtain ⟨_, _, _, _, _, _, h⟩ := h; exact Kd.R_lt h rh rfl
theorem impl_parse.One.step {w W W' : World} {c : Int} {a : Tm} {p rh rn : Nat} (h : impl_parse.One w W c a p rh rn) (hb : Below W.heap.size W W') : impl_parse.One w W' c a p rh rn := by
 obtain ⟨base, h1, h2, h3, h4, h5, h6⟩ := h
 exact ⟨base, below_step h1 hb, h2, Nat.le_trans h3 hb.size, blk_below h4 hb, h5.keep (fun i _ hi => hb.block i (by omega)), Kd.R_below h6 hb⟩
theorem impl_parse.One.sign {w W : World} {c : Int} {a : Tm} {p rh rn : Nat} (h : impl_parse.One w W c a p rh rn) (o : Int) : impl_parse.One w (W.setCell ⟨w.heap.size, 0, none⟩ (.int .u8 o)) o a p rh rn := by
 obtain ⟨base, h1, h2, h3, h4, h5, h6⟩ := h
 exact ⟨base, h1.setCell (p := ⟨w.heap.size, 0, none⟩) (Nat.le_refl _) _, h2, by simpa [World.setCell] using h3, blk_set h4 0 _, h5.keep (fun i hi _ => Below.heap_setCell W ⟨w.heap.size, 0, none⟩ _ i (by show i ≠ w.heap.size; omega)), Kd.R_set h6 h4 (by simp [impl_parse.ptrK, Kd.scalar]) 0 _⟩
theorem impl_parse.One.start {w w1 W : World} {c : Int} {a : Tm} {p rh rn lo : Nat} (HB : Below w.heap.size w w1) (hlo : w.heap.size < lo) (HAT : a.At w1 lo w1.heap.size (.pointer (some ⟨p, 0, none⟩))) (HG : Below w1.heap.size w1 W)
  (BR : W.heap[w.heap.size]? = some (.cells #[.int .u8 c, .slice none 0 0] 72 (0, 0))) (HR : impl_parse.ptrK.R 42 W w1.heap.size (fun _ => True) (.slice (some ⟨rh, 0, none⟩) 1 rn) [p]) : impl_parse.One w (W.setCell ⟨w.heap.size, 1, none⟩ (.slice (some ⟨rh, 0, none⟩) 1 rn)) c a p rh rn := by
 obtain ⟨_, p1, p2, _⟩ := HAT.ptr
 have s2 := HG.size
 refine ⟨w1.heap.size, (below_then HB HB.size HG).setCell (p := ⟨w.heap.size, 1, none⟩) (Nat.le_refl _) _, by omega, by simpa [World.setCell] using s2, blk_set BR 1 _, ?_, Kd.R_set HR BR (by simp [impl_parse.ptrK, Kd.scalar]) 1 _⟩
 exact (HAT.keep (fun i h1 h2 => (Below.heap_setCell W ⟨w.heap.size, 1, none⟩ _ i (by show i ≠ w.heap.size; omega)).trans (HG.block i h2))).mono (by omega) (Nat.le_refl _)
/-- Two parts are read. -/
def impl_parse.Two (w W : World) (c : Int) (sl : Value) (a b : Tm) (rh : Nat) : Prop := ∃ cs x y, Below w.heap.size w W ∧ w.heap.size < rh ∧ W.heap[w.heap.size]? = some (.cells #[.int .u8 c, sl] 72 (0, 0)) ∧ W.heap[rh]? = some (.cells cs 42 (0, 0)) ∧ cs[0]? = some x ∧ cs[1]? = some y ∧ a.At W (w.heap.size + 1) W.heap.size x ∧ b.At W (w.heap.size + 1) W.heap.size y
theorem impl_parse.Two.below {w W : World} {c : Int} {sl : Value} {a b : Tm} {rh : Nat} (h : impl_parse.Two w W c sl a b rh) : Below w.heap.size w W := by obtain ⟨_, _, _, h, _⟩ := h; exact h
theorem impl_parse.Two.blk {w W : World} {c : Int} {sl : Value} {a b : Tm} {rh : Nat} (h : impl_parse.Two w W c sl a b rh) : W.heap[w.heap.size]? = some (.cells #[.int .u8 c, sl] 72 (0, 0)) := by obtain ⟨_, _, _, _, _, h, _⟩ := h; exact h
theorem impl_parse.Two.step {w W W' : World} {c : Int} {sl : Value} {a b : Tm} {rh : Nat} (h : impl_parse.Two w W c sl a b rh) (hb : Below W.heap.size W W') : impl_parse.Two w W' c sl a b rh := by
 obtain ⟨cs, x, y, h1, h2, h3, h4, h5, h6, h7, h8⟩ := h
 exact ⟨cs, x, y, below_step h1 hb, h2, blk_below h3 hb, blk_below h4 hb, h5, h6, (h7.keep (fun i _ hi => hb.block i hi)).mono (Nat.le_refl _) hb.size, (h8.keep (fun i _ hi => hb.block i hi)).mono (Nat.le_refl _) hb.size⟩
theorem impl_parse.Two.put {w W : World} {c : Int} {sl : Value} {a b : Tm} {rh : Nat} (h : impl_parse.Two w W c sl a b rh) (v : Value) : impl_parse.Two w (W.setCell ⟨w.heap.size, 1, none⟩ v) c v a b rh := by
 obtain ⟨cs, x, y, h1, h2, h3, h4, h5, h6, h7, h8⟩ := h
 have far : ∀ i, w.heap.size + 1 ≤ i → (W.setCell ⟨w.heap.size, 1, none⟩ v).heap[i]? = W.heap[i]? := fun i hi => Below.heap_setCell W ⟨w.heap.size, 1, none⟩ _ i (by show i ≠ w.heap.size; omega)
 have hs : W.heap.size ≤ (W.setCell ⟨w.heap.size, 1, none⟩ v).heap.size := by simp [World.setCell]
 exact ⟨cs, x, y, h1.setCell (p := ⟨w.heap.size, 1, none⟩) (Nat.le_refl _) _, h2, blk_set h3 1 _, (far rh (by omega)).trans h4, h5, h6, (h7.keep (fun i hi _ => far i hi)).mono (Nat.le_refl _) hs, (h8.keep (fun i hi _ => far i hi)).mono (Nat.le_refl _) hs⟩
theorem impl_parse.Two.fin {w W : World} {c : Int} {a b : Tm} {rh rn : Nat} (h : impl_parse.Two w W c (.slice (some ⟨rh, 0, none⟩) 2 rn) a b rh) : (Tm.bin c a b).At W w.heap.size W.heap.size (.pointer (some ⟨w.heap.size, 0, none⟩)) := by
 obtain ⟨cs, x, y, h1, h2, h3, h4, h5, h6, h7, h8⟩ := h
 exact ⟨w.heap.size, rh, rn, cs, x, y, Nat.le_refl _, blk_lt h3, by omega, blk_lt h4, rfl, h3, h4, h5, h6, h7.mono (by omega) (Nat.le_refl _), h8.mono (by omega) (Nat.le_refl _)⟩
theorem impl_parse.Two.start {w W W2 : World} {c : Int} {a b : Tm} {p rh rn q lo rh2 rn2 base : Nat} (h1 : Below w.heap.size w W) (h2 : w.heap.size < base) (h3 : base ≤ W.heap.size) (h4 : W.heap[w.heap.size]? = some (.cells #[.int .u8 c, .slice (some ⟨rh, 0, none⟩) 1 rn] 72 (0, 0))) (h5 : a.At W (w.heap.size + 1) base (.pointer (some ⟨p, 0, none⟩)))
  (h6 : impl_parse.ptrK.R 42 W base (fun _ => True) (.slice (some ⟨rh, 0, none⟩) 1 rn) [p]) (hl : rh < lo) (HAT : b.At W lo W.heap.size (.pointer (some ⟨q, 0, none⟩))) (hg : W.grownBy W2 (some rh)) {cs : Array Value} (k1 : base ≤ rh2) (k2 : W2.heap[rh2]? = some (.cells cs 42 (0, 0))) (k3 : cs[0]? = some (.pointer (some ⟨p, 0, none⟩))) (k4 : cs[1]? = some (.pointer (some ⟨q, 0, none⟩))) :
  impl_parse.Two w W2 c (.slice (some ⟨rh, 0, none⟩) 1 rn) a b rh2 := by
 have hb := Kd.R_base h6 rh rfl
 refine ⟨cs, _, _, h1.grown hg (by omega) (fun k hk => by obtain rfl := Option.some.inj hk; omega), by omega, (hg.block _ (by omega) (by simp; omega)).trans h4, k2, k3, k4, ?_, ?_⟩
 ·exact (h5.keep (fun i _ hi => hg.block i (by omega) (by simp; omega))).mono (Nat.le_refl _) (Nat.le_trans h3 hg.size)
 ·exact (HAT.keep (fun i hi hi2 => hg.block i hi2 (by simp; omega))).mono (by omega) hg.size
theorem impl_parse.first (r : ByteArray) (h : 0 < r.size) : ∃ hs : (r.extract 0 1).size = 1, ((((r.extract 0 1)[0]'(by omega)).toNat : Nat) : Int) = bt r 0 := by
 have hs : (r.extract 0 1).size = 1 := by simp; omega
 refine ⟨hs, ?_⟩
 rw [← bt_at r 0 h]
 congr 2
 rw [ByteArray.getElem_extract]
 rfl
theorem impl_parse.has3 (r : ByteArray) (h : 0 < r.size) : strings_Contains.f (⟨#[43, 46, 38]⟩ : ByteArray) (r.extract 0 1) = some (decide (bt r 0 = 43 ∨ bt r 0 = 46 ∨ bt r 0 = 38)) := by
 obtain ⟨hs, hb⟩ := impl_parse.first r h
 unfold strings_Contains.f strings_Index.f stringslite_Index.f
 rw [dif_pos hs, ← hb]
 generalize (r.extract 0 1)[0] = c
 have e : ∀ n : Nat, n < 256 → (((c.toNat : Nat) : Int) = (n : Int) ↔ c = UInt8.ofNat n) := fun n hn => by
  constructor
  ·intro h; exact UInt8.toNat_inj.1 (by rw [UInt8.toNat_ofNat']; omega)
  ·rintro rfl; rw [UInt8.toNat_ofNat']; omega
 have e1 := e 43 (by omega); have e2 := e 46 (by omega); have e3 := e 38 (by omega)
 simp only [Option.bind_some, Option.some.injEq]
 rw [show (43 : Int) = ((43 : Nat) : Int) from rfl, show (46 : Int) = ((46 : Nat) : Int) from rfl, show (38 : Int) = ((38 : Nat) : Int) from rfl, decide_eq_decide, e1, e2, e3]
 by_cases a1 : c = UInt8.ofNat 43
 ·subst a1; decide
 ·by_cases a2 : c = UInt8.ofNat 46
  ·subst a2; decide
  ·by_cases a3 : c = UInt8.ofNat 38
   ·subst a3; decide
   ·simp only [a1, a2, a3, or_self, iff_false]
    have b1 : ((43 : UInt8) == c) = false := beq_eq_false_iff_ne.2 fun h => a1 h.symm
    have b2 : ((46 : UInt8) == c) = false := beq_eq_false_iff_ne.2 fun h => a2 h.symm
    have b3 : ((38 : UInt8) == c) = false := beq_eq_false_iff_ne.2 fun h => a3 h.symm
    simp [Lib.indexByte, b1, b2, b3]
theorem impl_parse.has1 (r : ByteArray) (h : 0 < r.size) : strings_Contains.f (⟨#[41]⟩ : ByteArray) (r.extract 0 1) = some (decide (bt r 0 = 41)) := by
 obtain ⟨hs, hb⟩ := impl_parse.first r h
 unfold strings_Contains.f strings_Index.f stringslite_Index.f
 rw [dif_pos hs, ← hb]
 generalize (r.extract 0 1)[0] = c
 have e1 : ((c.toNat : Nat) : Int) = ((41 : Nat) : Int) ↔ c = UInt8.ofNat 41 := by
  constructor
  ·intro h; exact UInt8.toNat_inj.1 (by rw [UInt8.toNat_ofNat']; omega)
  ·rintro rfl; rfl
 simp only [Option.bind_some, Option.some.injEq]
 rw [show (41 : Int) = ((41 : Nat) : Int) from rfl, decide_eq_decide, e1]
 by_cases a1 : c = UInt8.ofNat 41
 ·subst a1; decide
 ·simp only [a1, iff_false]
  have b1 : ((41 : UInt8) == c) = false := beq_eq_false_iff_ne.2 fun h => a1 h.symm
  simp [Lib.indexByte, b1]
set_option maxHeartbeats 4000000 in
set_option maxRecDepth 100000 in
theorem impl_parse.two_no (s : ByteArray) (w : World) (h : ¬ s.size = 0) (hc : bt s 0 = 40) (ih : ∀ W, Calls Try.prog 39 #[.string (s.extract 1 s.size)] W fun e w' => e = .returned (.tuple #[.pointer none, .string ⟨#[]⟩]) ∧ Below W.heap.size W w') :
  Calls Try.prog 39 #[.string s] w fun e w' => e = .returned (.tuple #[.pointer none, .string ⟨#[]⟩]) ∧ Below w.heap.size w w' := by
 have h0 : s.toList.isEmpty = false := by rw [impl_parse.isEmpty, decide_eq_false h]
 have hsz : 0 < s.size := by omega
 have hx : ∀ h : 0 < s.size, ((s[0]'h).toNat : Int) = 40 := fun h' => by rw [← hc]; exact bt_at s 0 h'
 have C := aM (fun W => impl_in.calls 40 50 53 false W rfl)
 have IH := aM ih
 clear ih hc h
 go_enter Try.func39, Try.ntmps39
 go_wp2_with (go_at_call 26; refine (C.out _).mono ?_; rintro e wi ⟨rfl, hd⟩; have hb := Drawn0.below hd; have BT0 := aM (blk_below (blk_new w (.cells #[.int .u8 40, .slice none 0 0] 72)) hb); have HB0 := aM (below_step (bA (Below.refl _ w) (.cells #[.int .u8 40, .slice none 0 0] 72)) hb); clear hd hb)
 refine wp_loop_rounds 3 ?_
 rw [rounds_succ]
 go_wp2_with (first | (go_at_call 39; refine (IH.out _).mono ?_; rintro e w1 ⟨rfl, hb⟩; have HB1 := aM (below_step HB0.out hb); clear hb))
 go_ret2
 exact ⟨rfl, HB1.out⟩
set_option maxHeartbeats 4000000 in
set_option maxRecDepth 100000 in
theorem impl_parse.two_end (s : ByteArray) (w : World) (h : ¬ s.size = 0) (hc : bt s 0 = 40) (a : Tm) (r : ByteArray) (ih : ∀ W, Calls Try.prog 39 #[.string (s.extract 1 s.size)] W fun e w' => ∃ v, e = .returned (.tuple #[v, .string r]) ∧ a.At w' W.heap.size w'.heap.size v ∧ Below W.heap.size W w') (hr : r.size = 0) :
  Calls Try.prog 39 #[.string s] w fun e w' => e = .returned (.tuple #[.pointer none, .string ⟨#[]⟩]) ∧ Below w.heap.size w w' := by
 have h0 : s.toList.isEmpty = false := by rw [impl_parse.isEmpty, decide_eq_false h]
 have hsz : 0 < s.size := by omega
 have hx : ∀ h : 0 < s.size, ((s[0]'h).toNat : Int) = 40 := fun h' => by rw [← hc]; exact bt_at s 0 h'
 have C := aM (fun W => impl_in.calls 40 50 53 false W rfl)
 have IH := aM ih
 clear ih hc h
 have hr0 : r.toList.isEmpty = true := by rw [impl_parse.isEmpty, decide_eq_true hr]
 go_enter Try.func39, Try.ntmps39
 go_wp2_with (go_at_call 26; refine (C.out _).mono ?_; rintro e wi ⟨rfl, hd⟩; have hb := Drawn0.below hd; have BT0 := aM (blk_below (blk_new w (.cells #[.int .u8 40, .slice none 0 0] 72)) hb); have HB0 := aM (below_step (bA (Below.refl _ w) (.cells #[.int .u8 40, .slice none 0 0] 72)) hb); clear hd hb)
 refine wp_loop_rounds 3 ?_
 rw [rounds_succ]
 go_wp2_with (first | (go_at_call 39; refine (IH.out _).mono ?_; rintro e w1 ⟨v1, rfl, hat, hb⟩; obtain ⟨p1, hp1, hq1, rfl⟩ := hat.ptr; have HAT1 := aM hat; have BT1 := aM (blk_below BT0.out hb); have HB1 := aM (below_step HB0.out hb); have e10 := blk_cell BT1.out 0; have e11 := blk_cell BT1.out 1; have f10 := blk_frozen BT1.out 0; have f11 := blk_frozen BT1.out 1; clear hat hb) | ((with_reducible refine gate_builtin (b := .append) (xs := #[.tmp 65, .tmp 67]) rfl ?_); at_builtin; refine Kd.R_append impl_parse.ptrK (w0 := w1) w1.heap.size rfl (.tmp 65) (.tmp 67) 70 42 (.pointer none) 8 rfl Try.underlying70 impl_parse.infoP rfl (by decide) (by omega) (.slice none 0 0) ([] : List Nat) p1 [.pointer (some ⟨p1, 0, none⟩)] (fun _ => True) (fun _ => False) rfl rfl ?aP (fun _ hk => hk.elim) ?aF ?aO ?aB ?aS ?aL ?_; (case aP => exact rfl); (case aB => exact (Below.refl _ w1)); (case aF => exact (fun _ _ => trivial)); (case aO => exact (Kd.R_nil _ _ _ _ _)); (case aS => exact (Nat.le_refl _)); (case aL => simp); intro v1_ w1_ ho hb hg hat; obtain ⟨rh1, rn1, rc1, rfl, rb1, rl1, rr1, rx1⟩ := impl_parse.row1 ho; have HR1 := aM ho; have OS1 := aM (impl_parse.One.start HB1.out (Nat.lt_of_lt_of_le (blk_lt BT0.out) (Nat.le_refl _)) HAT1.out hb (blk_grown BT1.out hg (by simp [Value.ownBlock])) ho); have RR1 := aM rr1; have RX1 := aM rx1; clear rr1 rx1; have HG1 := aM hb; have BR1 := aM (blk_grown BT1.out hg (by simp [Value.ownBlock])); have c11 := blk_cell BR1.out 1; have c10 := blk_cell BR1.out 0; have d11 := blk_frozen BR1.out 1; have d10 := blk_frozen BR1.out 0; clear ho hb hg hat))
 go_ret2
 exact ⟨rfl, (OS1.out.step (bA (Below.refl _ _) (.cells #[.string ⟨#[43, 46, 38]⟩, .string ⟨#[41]⟩] 9))).below⟩
set_option maxHeartbeats 4000000 in
set_option maxRecDepth 100000 in
theorem impl_parse.two_sign (s : ByteArray) (w : World) (h : ¬ s.size = 0) (hc : bt s 0 = 40) (a : Tm) (r : ByteArray) (ih : ∀ W, Calls Try.prog 39 #[.string (s.extract 1 s.size)] W fun e w' => ∃ v, e = .returned (.tuple #[v, .string r]) ∧ a.At w' W.heap.size w'.heap.size v ∧ Below W.heap.size W w') (hr : ¬ r.size = 0) (o : Int) (ho : bt r 0 = o) (hs : ¬ (o = 43 ∨ o = 46 ∨ o = 38)) :
  Calls Try.prog 39 #[.string s] w fun e w' => e = .returned (.tuple #[.pointer none, .string ⟨#[]⟩]) ∧ Below w.heap.size w w' := by
 have h0 : s.toList.isEmpty = false := by rw [impl_parse.isEmpty, decide_eq_false h]
 have hsz : 0 < s.size := by omega
 have hx : ∀ h : 0 < s.size, ((s[0]'h).toNat : Int) = 40 := fun h' => by rw [← hc]; exact bt_at s 0 h'
 have C := aM (fun W => impl_in.calls 40 50 53 false W rfl)
 have IH := aM ih
 clear ih hc h
 have hr0 : r.toList.isEmpty = false := by rw [impl_parse.isEmpty, decide_eq_false hr]
 have hrz : 0 < r.size := by omega
 have HC1 := aM (impl_parse.has3 r hrz)
 have hy : ∀ h : 0 < r.size, ((r[0]'h).toNat : Int) = o := fun h' => by rw [← ho]; exact bt_at r 0 h'
 rw [ho, decide_eq_false hs] at HC1
 clear ho hs hr
 go_enter Try.func39, Try.ntmps39
 go_wp2_with (go_at_call 26; refine (C.out _).mono ?_; rintro e wi ⟨rfl, hd⟩; have hb := Drawn0.below hd; have BT0 := aM (blk_below (blk_new w (.cells #[.int .u8 40, .slice none 0 0] 72)) hb); have HB0 := aM (below_step (bA (Below.refl _ w) (.cells #[.int .u8 40, .slice none 0 0] 72)) hb); clear hd hb)
 refine wp_loop_rounds 3 ?_
 rw [rounds_succ]
 go_wp2_with (first | (go_at_call 39; refine (IH.out _).mono ?_; rintro e w1 ⟨v1, rfl, hat, hb⟩; obtain ⟨p1, hp1, hq1, rfl⟩ := hat.ptr; have HAT1 := aM hat; have BT1 := aM (blk_below BT0.out hb); have HB1 := aM (below_step HB0.out hb); have e10 := blk_cell BT1.out 0; have e11 := blk_cell BT1.out 1; have f10 := blk_frozen BT1.out 0; have f11 := blk_frozen BT1.out 1; clear hat hb) | ((with_reducible refine gate_builtin (b := .append) (xs := #[.tmp 65, .tmp 67]) rfl ?_); at_builtin; refine Kd.R_append impl_parse.ptrK (w0 := w1) w1.heap.size rfl (.tmp 65) (.tmp 67) 70 42 (.pointer none) 8 rfl Try.underlying70 impl_parse.infoP rfl (by decide) (by omega) (.slice none 0 0) ([] : List Nat) p1 [.pointer (some ⟨p1, 0, none⟩)] (fun _ => True) (fun _ => False) rfl rfl ?aP (fun _ hk => hk.elim) ?aF ?aO ?aB ?aS ?aL ?_; (case aP => exact rfl); (case aB => exact (Below.refl _ w1)); (case aF => exact (fun _ _ => trivial)); (case aO => exact (Kd.R_nil _ _ _ _ _)); (case aS => exact (Nat.le_refl _)); (case aL => simp); intro v1_ w1_ ho hb hg hat; obtain ⟨rh1, rn1, rc1, rfl, rb1, rl1, rr1, rx1⟩ := impl_parse.row1 ho; have HR1 := aM ho; have OS1 := aM (impl_parse.One.start HB1.out (Nat.lt_of_lt_of_le (blk_lt BT0.out) (Nat.le_refl _)) HAT1.out hb (blk_grown BT1.out hg (by simp [Value.ownBlock])) ho); have RR1 := aM rr1; have RX1 := aM rx1; clear rr1 rx1; have HG1 := aM hb; have BR1 := aM (blk_grown BT1.out hg (by simp [Value.ownBlock])); have c11 := blk_cell BR1.out 1; have c10 := blk_cell BR1.out 0; have d11 := blk_frozen BR1.out 1; have d10 := blk_frozen BR1.out 0; clear ho hb hg hat) | (go_at_call 61; refine (strings_Contains.calls _ _ false _ HC1.out).mono ?_; rintro e wc ⟨rfl, hd⟩; have hb := Drawn0.below hd; have O1 := aM ((OS1.out.step (bA (Below.refl _ _) (.cells #[.string ⟨#[43, 46, 38]⟩, .string ⟨#[41]⟩] 9))).step hb); have e20 := blk_cell O1.out.blk 0; have e21 := blk_cell O1.out.blk 1; have f20 := blk_frozen O1.out.blk 0; have f21 := blk_frozen O1.out.blk 1; clear hd hb))
 go_ret2
 exact ⟨rfl, O1.out.below⟩
set_option maxHeartbeats 4000000 in
set_option maxRecDepth 100000 in
theorem impl_parse.two_none (s : ByteArray) (w : World) (h : ¬ s.size = 0) (hc : bt s 0 = 40) (a : Tm) (r : ByteArray) (ih : ∀ W, Calls Try.prog 39 #[.string (s.extract 1 s.size)] W fun e w' => ∃ v, e = .returned (.tuple #[v, .string r]) ∧ a.At w' W.heap.size w'.heap.size v ∧ Below W.heap.size W w') (hr : ¬ r.size = 0) (o : Int) (ho : bt r 0 = o) (hs : o = 43 ∨ o = 46 ∨ o = 38) (ih2 : ∀ W, Calls Try.prog 39 #[.string (r.extract 1 r.size)] W fun e w' => e = .returned (.tuple #[.pointer none, .string ⟨#[]⟩]) ∧ Below W.heap.size W w') :
  Calls Try.prog 39 #[.string s] w fun e w' => e = .returned (.tuple #[.pointer none, .string ⟨#[]⟩]) ∧ Below w.heap.size w w' := by
 have h0 : s.toList.isEmpty = false := by rw [impl_parse.isEmpty, decide_eq_false h]
 have hsz : 0 < s.size := by omega
 have hx : ∀ h : 0 < s.size, ((s[0]'h).toNat : Int) = 40 := fun h' => by rw [← hc]; exact bt_at s 0 h'
 have C := aM (fun W => impl_in.calls 40 50 53 false W rfl)
 have IH := aM ih
 clear ih hc h
 have hr0 : r.toList.isEmpty = false := by rw [impl_parse.isEmpty, decide_eq_false hr]
 have hrz : 0 < r.size := by omega
 have HC1 := aM (impl_parse.has3 r hrz)
 have hy : ∀ h : 0 < r.size, ((r[0]'h).toNat : Int) = o := fun h' => by rw [← ho]; exact bt_at r 0 h'
 rw [ho, decide_eq_true hs] at HC1
 clear ho hs hr
 have IH2 := aM ih2
 clear ih2
 go_enter Try.func39, Try.ntmps39
 go_wp2_with (go_at_call 26; refine (C.out _).mono ?_; rintro e wi ⟨rfl, hd⟩; have hb := Drawn0.below hd; have BT0 := aM (blk_below (blk_new w (.cells #[.int .u8 40, .slice none 0 0] 72)) hb); have HB0 := aM (below_step (bA (Below.refl _ w) (.cells #[.int .u8 40, .slice none 0 0] 72)) hb); clear hd hb)
 refine wp_loop_rounds 3 ?_
 rw [rounds_succ]
 go_wp2_with (first | (go_at_call 39; refine (IH.out _).mono ?_; rintro e w1 ⟨v1, rfl, hat, hb⟩; obtain ⟨p1, hp1, hq1, rfl⟩ := hat.ptr; have HAT1 := aM hat; have BT1 := aM (blk_below BT0.out hb); have HB1 := aM (below_step HB0.out hb); have e10 := blk_cell BT1.out 0; have e11 := blk_cell BT1.out 1; have f10 := blk_frozen BT1.out 0; have f11 := blk_frozen BT1.out 1; clear hat hb) | ((with_reducible refine gate_builtin (b := .append) (xs := #[.tmp 65, .tmp 67]) rfl ?_); at_builtin; refine Kd.R_append impl_parse.ptrK (w0 := w1) w1.heap.size rfl (.tmp 65) (.tmp 67) 70 42 (.pointer none) 8 rfl Try.underlying70 impl_parse.infoP rfl (by decide) (by omega) (.slice none 0 0) ([] : List Nat) p1 [.pointer (some ⟨p1, 0, none⟩)] (fun _ => True) (fun _ => False) rfl rfl ?aP (fun _ hk => hk.elim) ?aF ?aO ?aB ?aS ?aL ?_; (case aP => exact rfl); (case aB => exact (Below.refl _ w1)); (case aF => exact (fun _ _ => trivial)); (case aO => exact (Kd.R_nil _ _ _ _ _)); (case aS => exact (Nat.le_refl _)); (case aL => simp); intro v1_ w1_ ho hb hg hat; obtain ⟨rh1, rn1, rc1, rfl, rb1, rl1, rr1, rx1⟩ := impl_parse.row1 ho; have HR1 := aM ho; have OS1 := aM (impl_parse.One.start HB1.out (Nat.lt_of_lt_of_le (blk_lt BT0.out) (Nat.le_refl _)) HAT1.out hb (blk_grown BT1.out hg (by simp [Value.ownBlock])) ho); have RR1 := aM rr1; have RX1 := aM rx1; clear rr1 rx1; have HG1 := aM hb; have BR1 := aM (blk_grown BT1.out hg (by simp [Value.ownBlock])); have c11 := blk_cell BR1.out 1; have c10 := blk_cell BR1.out 0; have d11 := blk_frozen BR1.out 1; have d10 := blk_frozen BR1.out 0; clear ho hb hg hat) | (go_at_call 61; refine (strings_Contains.calls _ _ true _ HC1.out).mono ?_; rintro e wc ⟨rfl, hd⟩; have hb := Drawn0.below hd; have O1 := aM ((OS1.out.step (bA (Below.refl _ _) (.cells #[.string ⟨#[43, 46, 38]⟩, .string ⟨#[41]⟩] 9))).step hb); have e20 := blk_cell O1.out.blk 0; have e21 := blk_cell O1.out.blk 1; have f20 := blk_frozen O1.out.blk 0; have f21 := blk_frozen O1.out.blk 1; clear hd hb))
 rw [rounds_succ]
 go_wp2_with (first | (go_at_call 39; refine (IH2.out _).mono ?_; rintro e w2 ⟨rfl, hb⟩; have O2 := aM ((O1.out.sign o).step hb); clear hb))
 go_ret2
 exact ⟨rfl, O2.out.below⟩
set_option maxHeartbeats 4000000 in
set_option maxRecDepth 100000 in
theorem impl_parse.two_open (s : ByteArray) (w : World) (h : ¬ s.size = 0) (hc : bt s 0 = 40) (a : Tm) (r : ByteArray) (ih : ∀ W, Calls Try.prog 39 #[.string (s.extract 1 s.size)] W fun e w' => ∃ v, e = .returned (.tuple #[v, .string r]) ∧ a.At w' W.heap.size w'.heap.size v ∧ Below W.heap.size W w') (hr : ¬ r.size = 0) (o : Int) (ho : bt r 0 = o) (hs : o = 43 ∨ o = 46 ∨ o = 38) (b : Tm) (q : ByteArray) (ih2 : ∀ W, Calls Try.prog 39 #[.string (r.extract 1 r.size)] W fun e w' => ∃ v, e = .returned (.tuple #[v, .string q]) ∧ b.At w' W.heap.size w'.heap.size v ∧ Below W.heap.size W w') (hq : q.size = 0) :
  Calls Try.prog 39 #[.string s] w fun e w' => e = .returned (.tuple #[.pointer none, .string ⟨#[]⟩]) ∧ Below w.heap.size w w' := by
 have h0 : s.toList.isEmpty = false := by rw [impl_parse.isEmpty, decide_eq_false h]
 have hsz : 0 < s.size := by omega
 have hx : ∀ h : 0 < s.size, ((s[0]'h).toNat : Int) = 40 := fun h' => by rw [← hc]; exact bt_at s 0 h'
 have C := aM (fun W => impl_in.calls 40 50 53 false W rfl)
 have IH := aM ih
 clear ih hc h
 have hr0 : r.toList.isEmpty = false := by rw [impl_parse.isEmpty, decide_eq_false hr]
 have hrz : 0 < r.size := by omega
 have HC1 := aM (impl_parse.has3 r hrz)
 have hy : ∀ h : 0 < r.size, ((r[0]'h).toNat : Int) = o := fun h' => by rw [← ho]; exact bt_at r 0 h'
 rw [ho, decide_eq_true hs] at HC1
 clear ho hs hr
 have IH2 := aM ih2
 clear ih2
 have hq0 : q.toList.isEmpty = true := by rw [impl_parse.isEmpty, decide_eq_true hq]
 go_enter Try.func39, Try.ntmps39
 go_wp2_with (go_at_call 26; refine (C.out _).mono ?_; rintro e wi ⟨rfl, hd⟩; have hb := Drawn0.below hd; have BT0 := aM (blk_below (blk_new w (.cells #[.int .u8 40, .slice none 0 0] 72)) hb); have HB0 := aM (below_step (bA (Below.refl _ w) (.cells #[.int .u8 40, .slice none 0 0] 72)) hb); clear hd hb)
 refine wp_loop_rounds 3 ?_
 rw [rounds_succ]
 go_wp2_with (first | (go_at_call 39; refine (IH.out _).mono ?_; rintro e w1 ⟨v1, rfl, hat, hb⟩; obtain ⟨p1, hp1, hq1, rfl⟩ := hat.ptr; have HAT1 := aM hat; have BT1 := aM (blk_below BT0.out hb); have HB1 := aM (below_step HB0.out hb); have e10 := blk_cell BT1.out 0; have e11 := blk_cell BT1.out 1; have f10 := blk_frozen BT1.out 0; have f11 := blk_frozen BT1.out 1; clear hat hb) | ((with_reducible refine gate_builtin (b := .append) (xs := #[.tmp 65, .tmp 67]) rfl ?_); at_builtin; refine Kd.R_append impl_parse.ptrK (w0 := w1) w1.heap.size rfl (.tmp 65) (.tmp 67) 70 42 (.pointer none) 8 rfl Try.underlying70 impl_parse.infoP rfl (by decide) (by omega) (.slice none 0 0) ([] : List Nat) p1 [.pointer (some ⟨p1, 0, none⟩)] (fun _ => True) (fun _ => False) rfl rfl ?aP (fun _ hk => hk.elim) ?aF ?aO ?aB ?aS ?aL ?_; (case aP => exact rfl); (case aB => exact (Below.refl _ w1)); (case aF => exact (fun _ _ => trivial)); (case aO => exact (Kd.R_nil _ _ _ _ _)); (case aS => exact (Nat.le_refl _)); (case aL => simp); intro v1_ w1_ ho hb hg hat; obtain ⟨rh1, rn1, rc1, rfl, rb1, rl1, rr1, rx1⟩ := impl_parse.row1 ho; have HR1 := aM ho; have OS1 := aM (impl_parse.One.start HB1.out (Nat.lt_of_lt_of_le (blk_lt BT0.out) (Nat.le_refl _)) HAT1.out hb (blk_grown BT1.out hg (by simp [Value.ownBlock])) ho); have RR1 := aM rr1; have RX1 := aM rx1; clear rr1 rx1; have HG1 := aM hb; have BR1 := aM (blk_grown BT1.out hg (by simp [Value.ownBlock])); have c11 := blk_cell BR1.out 1; have c10 := blk_cell BR1.out 0; have d11 := blk_frozen BR1.out 1; have d10 := blk_frozen BR1.out 0; clear ho hb hg hat) | (go_at_call 61; refine (strings_Contains.calls _ _ true _ HC1.out).mono ?_; rintro e wc ⟨rfl, hd⟩; have hb := Drawn0.below hd; have O1 := aM ((OS1.out.step (bA (Below.refl _ _) (.cells #[.string ⟨#[43, 46, 38]⟩, .string ⟨#[41]⟩] 9))).step hb); have e20 := blk_cell O1.out.blk 0; have e21 := blk_cell O1.out.blk 1; have f20 := blk_frozen O1.out.blk 0; have f21 := blk_frozen O1.out.blk 1; clear hd hb))
 rw [rounds_succ]
 go_wp2_with (first | (go_at_call 39; refine (IH2.out _).mono ?_; rintro e w2 ⟨v2, rfl, hat, hb⟩; obtain ⟨p2, hp2, hq2, rfl⟩ := hat.ptr; have HAT2 := aM hat; have L2 := aM ((O1.out.sign o).lt); have O2 := aM ((O1.out.sign o).step hb); have e30 := blk_cell O2.out.blk 0; have e31 := blk_cell O2.out.blk 1; have f30 := blk_frozen O2.out.blk 0; have f31 := blk_frozen O2.out.blk 1; clear hat hb) | ((with_reducible refine gate_builtin (b := .append) (xs := #[.tmp 65, .tmp 67]) rfl ?_); at_builtin; obtain ⟨base, o1, o2, o3, o4, o5, o6⟩ := O2.out; refine Kd.R_append impl_parse.ptrK (w0 := w2) base rfl (.tmp 65) (.tmp 67) 70 42 (.pointer none) 8 rfl Try.underlying70 impl_parse.infoP rfl (by decide) (by omega) (.slice (some ⟨rh1, 0, none⟩) 1 rn1) [p1] p2 [.pointer (some ⟨p2, 0, none⟩)] (fun _ => True) (fun _ => False) rfl rfl ?aP (fun _ hk => hk.elim) ?aF ?aO ?aB ?aS ?aL ?_; (case aP => exact rfl); (case aB => exact Below.refl _ _); (case aF => exact (fun _ _ => trivial)); (case aO => exact o6); (case aS => exact o3); (case aL => simp); intro v2_ w2_ ho hb hg hat; obtain ⟨rh2, rn2, rc2, rfl, rb2, rl2, rr2, rx2, ry2⟩ := impl_parse.row2 ho; have T1 := aM (impl_parse.Two.start o1 o2 o3 o4 o5 o6 L2.out HAT2.out hg rb2 rr2 rx2 ry2 (rn2 := rn2)); have e40 := blk_cell T1.out.blk 0; have e41 := blk_cell T1.out.blk 1; have f40 := blk_frozen T1.out.blk 0; have f41 := blk_frozen T1.out.blk 1; clear ho hb hg hat rr2 rx2 ry2 o1 o2 o3 o4 o5 o6))
 go_ret2
 exact ⟨rfl, ((T1.out.put (.slice (some ⟨rh2, 0, none⟩) 2 rn2)).step (bA (Below.refl _ _) (.cells #[.string ⟨#[43, 46, 38]⟩, .string ⟨#[41]⟩] 9))).below⟩
set_option maxHeartbeats 4000000 in
set_option maxRecDepth 100000 in
theorem impl_parse.two_shut (s : ByteArray) (w : World) (h : ¬ s.size = 0) (hc : bt s 0 = 40) (a : Tm) (r : ByteArray) (ih : ∀ W, Calls Try.prog 39 #[.string (s.extract 1 s.size)] W fun e w' => ∃ v, e = .returned (.tuple #[v, .string r]) ∧ a.At w' W.heap.size w'.heap.size v ∧ Below W.heap.size W w') (hr : ¬ r.size = 0) (o : Int) (ho : bt r 0 = o) (hs : o = 43 ∨ o = 46 ∨ o = 38) (b : Tm) (q : ByteArray) (ih2 : ∀ W, Calls Try.prog 39 #[.string (r.extract 1 r.size)] W fun e w' => ∃ v, e = .returned (.tuple #[v, .string q]) ∧ b.At w' W.heap.size w'.heap.size v ∧ Below W.heap.size W w') (hq : ¬ q.size = 0) (hz : ¬ bt q 0 = 41) :
  Calls Try.prog 39 #[.string s] w fun e w' => e = .returned (.tuple #[.pointer none, .string ⟨#[]⟩]) ∧ Below w.heap.size w w' := by
 have h0 : s.toList.isEmpty = false := by rw [impl_parse.isEmpty, decide_eq_false h]
 have hsz : 0 < s.size := by omega
 have hx : ∀ h : 0 < s.size, ((s[0]'h).toNat : Int) = 40 := fun h' => by rw [← hc]; exact bt_at s 0 h'
 have C := aM (fun W => impl_in.calls 40 50 53 false W rfl)
 have IH := aM ih
 clear ih hc h
 have hr0 : r.toList.isEmpty = false := by rw [impl_parse.isEmpty, decide_eq_false hr]
 have hrz : 0 < r.size := by omega
 have HC1 := aM (impl_parse.has3 r hrz)
 have hy : ∀ h : 0 < r.size, ((r[0]'h).toNat : Int) = o := fun h' => by rw [← ho]; exact bt_at r 0 h'
 rw [ho, decide_eq_true hs] at HC1
 clear ho hs hr
 have IH2 := aM ih2
 clear ih2
 have hq0 : q.toList.isEmpty = false := by rw [impl_parse.isEmpty, decide_eq_false hq]
 have hqz : 0 < q.size := by omega
 have HC2 := aM (impl_parse.has1 q hqz)
 rw [decide_eq_false hz] at HC2
 clear hz hq
 go_enter Try.func39, Try.ntmps39
 go_wp2_with (go_at_call 26; refine (C.out _).mono ?_; rintro e wi ⟨rfl, hd⟩; have hb := Drawn0.below hd; have BT0 := aM (blk_below (blk_new w (.cells #[.int .u8 40, .slice none 0 0] 72)) hb); have HB0 := aM (below_step (bA (Below.refl _ w) (.cells #[.int .u8 40, .slice none 0 0] 72)) hb); clear hd hb)
 refine wp_loop_rounds 3 ?_
 rw [rounds_succ]
 go_wp2_with (first | (go_at_call 39; refine (IH.out _).mono ?_; rintro e w1 ⟨v1, rfl, hat, hb⟩; obtain ⟨p1, hp1, hq1, rfl⟩ := hat.ptr; have HAT1 := aM hat; have BT1 := aM (blk_below BT0.out hb); have HB1 := aM (below_step HB0.out hb); have e10 := blk_cell BT1.out 0; have e11 := blk_cell BT1.out 1; have f10 := blk_frozen BT1.out 0; have f11 := blk_frozen BT1.out 1; clear hat hb) | ((with_reducible refine gate_builtin (b := .append) (xs := #[.tmp 65, .tmp 67]) rfl ?_); at_builtin; refine Kd.R_append impl_parse.ptrK (w0 := w1) w1.heap.size rfl (.tmp 65) (.tmp 67) 70 42 (.pointer none) 8 rfl Try.underlying70 impl_parse.infoP rfl (by decide) (by omega) (.slice none 0 0) ([] : List Nat) p1 [.pointer (some ⟨p1, 0, none⟩)] (fun _ => True) (fun _ => False) rfl rfl ?aP (fun _ hk => hk.elim) ?aF ?aO ?aB ?aS ?aL ?_; (case aP => exact rfl); (case aB => exact (Below.refl _ w1)); (case aF => exact (fun _ _ => trivial)); (case aO => exact (Kd.R_nil _ _ _ _ _)); (case aS => exact (Nat.le_refl _)); (case aL => simp); intro v1_ w1_ ho hb hg hat; obtain ⟨rh1, rn1, rc1, rfl, rb1, rl1, rr1, rx1⟩ := impl_parse.row1 ho; have HR1 := aM ho; have OS1 := aM (impl_parse.One.start HB1.out (Nat.lt_of_lt_of_le (blk_lt BT0.out) (Nat.le_refl _)) HAT1.out hb (blk_grown BT1.out hg (by simp [Value.ownBlock])) ho); have RR1 := aM rr1; have RX1 := aM rx1; clear rr1 rx1; have HG1 := aM hb; have BR1 := aM (blk_grown BT1.out hg (by simp [Value.ownBlock])); have c11 := blk_cell BR1.out 1; have c10 := blk_cell BR1.out 0; have d11 := blk_frozen BR1.out 1; have d10 := blk_frozen BR1.out 0; clear ho hb hg hat) | (go_at_call 61; refine (strings_Contains.calls _ _ true _ HC1.out).mono ?_; rintro e wc ⟨rfl, hd⟩; have hb := Drawn0.below hd; have O1 := aM ((OS1.out.step (bA (Below.refl _ _) (.cells #[.string ⟨#[43, 46, 38]⟩, .string ⟨#[41]⟩] 9))).step hb); have e20 := blk_cell O1.out.blk 0; have e21 := blk_cell O1.out.blk 1; have f20 := blk_frozen O1.out.blk 0; have f21 := blk_frozen O1.out.blk 1; clear hd hb))
 rw [rounds_succ]
 go_wp2_with (first | (go_at_call 39; refine (IH2.out _).mono ?_; rintro e w2 ⟨v2, rfl, hat, hb⟩; obtain ⟨p2, hp2, hq2, rfl⟩ := hat.ptr; have HAT2 := aM hat; have L2 := aM ((O1.out.sign o).lt); have O2 := aM ((O1.out.sign o).step hb); have e30 := blk_cell O2.out.blk 0; have e31 := blk_cell O2.out.blk 1; have f30 := blk_frozen O2.out.blk 0; have f31 := blk_frozen O2.out.blk 1; clear hat hb) | ((with_reducible refine gate_builtin (b := .append) (xs := #[.tmp 65, .tmp 67]) rfl ?_); at_builtin; obtain ⟨base, o1, o2, o3, o4, o5, o6⟩ := O2.out; refine Kd.R_append impl_parse.ptrK (w0 := w2) base rfl (.tmp 65) (.tmp 67) 70 42 (.pointer none) 8 rfl Try.underlying70 impl_parse.infoP rfl (by decide) (by omega) (.slice (some ⟨rh1, 0, none⟩) 1 rn1) [p1] p2 [.pointer (some ⟨p2, 0, none⟩)] (fun _ => True) (fun _ => False) rfl rfl ?aP (fun _ hk => hk.elim) ?aF ?aO ?aB ?aS ?aL ?_; (case aP => exact rfl); (case aB => exact Below.refl _ _); (case aF => exact (fun _ _ => trivial)); (case aO => exact o6); (case aS => exact o3); (case aL => simp); intro v2_ w2_ ho hb hg hat; obtain ⟨rh2, rn2, rc2, rfl, rb2, rl2, rr2, rx2, ry2⟩ := impl_parse.row2 ho; have T1 := aM (impl_parse.Two.start o1 o2 o3 o4 o5 o6 L2.out HAT2.out hg rb2 rr2 rx2 ry2 (rn2 := rn2)); have e40 := blk_cell T1.out.blk 0; have e41 := blk_cell T1.out.blk 1; have f40 := blk_frozen T1.out.blk 0; have f41 := blk_frozen T1.out.blk 1; clear ho hb hg hat rr2 rx2 ry2 o1 o2 o3 o4 o5 o6) | (go_at_call 61; refine (strings_Contains.calls _ _ false _ HC2.out).mono ?_; rintro e wd ⟨rfl, hd⟩; have hb := Drawn0.below hd; have T2 := aM (((T1.out.put (.slice (some ⟨rh2, 0, none⟩) 2 rn2)).step (bA (Below.refl _ _) (.cells #[.string ⟨#[43, 46, 38]⟩, .string ⟨#[41]⟩] 9))).step hb); clear hd hb))
 go_ret2
 exact ⟨rfl, T2.out.below⟩
set_option maxHeartbeats 4000000 in
set_option maxRecDepth 100000 in
theorem impl_parse.two_yes (s : ByteArray) (w : World) (h : ¬ s.size = 0) (hc : bt s 0 = 40) (a : Tm) (r : ByteArray) (ih : ∀ W, Calls Try.prog 39 #[.string (s.extract 1 s.size)] W fun e w' => ∃ v, e = .returned (.tuple #[v, .string r]) ∧ a.At w' W.heap.size w'.heap.size v ∧ Below W.heap.size W w') (hr : ¬ r.size = 0) (o : Int) (ho : bt r 0 = o) (hs : o = 43 ∨ o = 46 ∨ o = 38) (b : Tm) (q : ByteArray) (ih2 : ∀ W, Calls Try.prog 39 #[.string (r.extract 1 r.size)] W fun e w' => ∃ v, e = .returned (.tuple #[v, .string q]) ∧ b.At w' W.heap.size w'.heap.size v ∧ Below W.heap.size W w') (hq : ¬ q.size = 0) (hz : bt q 0 = 41) :
  Calls Try.prog 39 #[.string s] w fun e w' => ∃ v, e = .returned (.tuple #[v, .string (q.extract 1 q.size)]) ∧ (Tm.bin o a b).At w' w.heap.size w'.heap.size v ∧ Below w.heap.size w w' := by
 have h0 : s.toList.isEmpty = false := by rw [impl_parse.isEmpty, decide_eq_false h]
 have hsz : 0 < s.size := by omega
 have hx : ∀ h : 0 < s.size, ((s[0]'h).toNat : Int) = 40 := fun h' => by rw [← hc]; exact bt_at s 0 h'
 have C := aM (fun W => impl_in.calls 40 50 53 false W rfl)
 have IH := aM ih
 clear ih hc h
 have hr0 : r.toList.isEmpty = false := by rw [impl_parse.isEmpty, decide_eq_false hr]
 have hrz : 0 < r.size := by omega
 have HC1 := aM (impl_parse.has3 r hrz)
 have hy : ∀ h : 0 < r.size, ((r[0]'h).toNat : Int) = o := fun h' => by rw [← ho]; exact bt_at r 0 h'
 rw [ho, decide_eq_true hs] at HC1
 clear ho hs hr
 have IH2 := aM ih2
 clear ih2
 have hq0 : q.toList.isEmpty = false := by rw [impl_parse.isEmpty, decide_eq_false hq]
 have hqz : 0 < q.size := by omega
 have HC2 := aM (impl_parse.has1 q hqz)
 rw [decide_eq_true hz] at HC2
 clear hz hq
 go_enter Try.func39, Try.ntmps39
 go_wp2_with (go_at_call 26; refine (C.out _).mono ?_; rintro e wi ⟨rfl, hd⟩; have hb := Drawn0.below hd; have BT0 := aM (blk_below (blk_new w (.cells #[.int .u8 40, .slice none 0 0] 72)) hb); have HB0 := aM (below_step (bA (Below.refl _ w) (.cells #[.int .u8 40, .slice none 0 0] 72)) hb); clear hd hb)
 refine wp_loop_rounds 3 ?_
 rw [rounds_succ]
 go_wp2_with (first | (go_at_call 39; refine (IH.out _).mono ?_; rintro e w1 ⟨v1, rfl, hat, hb⟩; obtain ⟨p1, hp1, hq1, rfl⟩ := hat.ptr; have HAT1 := aM hat; have BT1 := aM (blk_below BT0.out hb); have HB1 := aM (below_step HB0.out hb); have e10 := blk_cell BT1.out 0; have e11 := blk_cell BT1.out 1; have f10 := blk_frozen BT1.out 0; have f11 := blk_frozen BT1.out 1; clear hat hb) | ((with_reducible refine gate_builtin (b := .append) (xs := #[.tmp 65, .tmp 67]) rfl ?_); at_builtin; refine Kd.R_append impl_parse.ptrK (w0 := w1) w1.heap.size rfl (.tmp 65) (.tmp 67) 70 42 (.pointer none) 8 rfl Try.underlying70 impl_parse.infoP rfl (by decide) (by omega) (.slice none 0 0) ([] : List Nat) p1 [.pointer (some ⟨p1, 0, none⟩)] (fun _ => True) (fun _ => False) rfl rfl ?aP (fun _ hk => hk.elim) ?aF ?aO ?aB ?aS ?aL ?_; (case aP => exact rfl); (case aB => exact (Below.refl _ w1)); (case aF => exact (fun _ _ => trivial)); (case aO => exact (Kd.R_nil _ _ _ _ _)); (case aS => exact (Nat.le_refl _)); (case aL => simp); intro v1_ w1_ ho hb hg hat; obtain ⟨rh1, rn1, rc1, rfl, rb1, rl1, rr1, rx1⟩ := impl_parse.row1 ho; have HR1 := aM ho; have OS1 := aM (impl_parse.One.start HB1.out (Nat.lt_of_lt_of_le (blk_lt BT0.out) (Nat.le_refl _)) HAT1.out hb (blk_grown BT1.out hg (by simp [Value.ownBlock])) ho); have RR1 := aM rr1; have RX1 := aM rx1; clear rr1 rx1; have HG1 := aM hb; have BR1 := aM (blk_grown BT1.out hg (by simp [Value.ownBlock])); have c11 := blk_cell BR1.out 1; have c10 := blk_cell BR1.out 0; have d11 := blk_frozen BR1.out 1; have d10 := blk_frozen BR1.out 0; clear ho hb hg hat) | (go_at_call 61; refine (strings_Contains.calls _ _ true _ HC1.out).mono ?_; rintro e wc ⟨rfl, hd⟩; have hb := Drawn0.below hd; have O1 := aM ((OS1.out.step (bA (Below.refl _ _) (.cells #[.string ⟨#[43, 46, 38]⟩, .string ⟨#[41]⟩] 9))).step hb); have e20 := blk_cell O1.out.blk 0; have e21 := blk_cell O1.out.blk 1; have f20 := blk_frozen O1.out.blk 0; have f21 := blk_frozen O1.out.blk 1; clear hd hb))
 rw [rounds_succ]
 go_wp2_with (first | (go_at_call 39; refine (IH2.out _).mono ?_; rintro e w2 ⟨v2, rfl, hat, hb⟩; obtain ⟨p2, hp2, hq2, rfl⟩ := hat.ptr; have HAT2 := aM hat; have L2 := aM ((O1.out.sign o).lt); have O2 := aM ((O1.out.sign o).step hb); have e30 := blk_cell O2.out.blk 0; have e31 := blk_cell O2.out.blk 1; have f30 := blk_frozen O2.out.blk 0; have f31 := blk_frozen O2.out.blk 1; clear hat hb) | ((with_reducible refine gate_builtin (b := .append) (xs := #[.tmp 65, .tmp 67]) rfl ?_); at_builtin; obtain ⟨base, o1, o2, o3, o4, o5, o6⟩ := O2.out; refine Kd.R_append impl_parse.ptrK (w0 := w2) base rfl (.tmp 65) (.tmp 67) 70 42 (.pointer none) 8 rfl Try.underlying70 impl_parse.infoP rfl (by decide) (by omega) (.slice (some ⟨rh1, 0, none⟩) 1 rn1) [p1] p2 [.pointer (some ⟨p2, 0, none⟩)] (fun _ => True) (fun _ => False) rfl rfl ?aP (fun _ hk => hk.elim) ?aF ?aO ?aB ?aS ?aL ?_; (case aP => exact rfl); (case aB => exact Below.refl _ _); (case aF => exact (fun _ _ => trivial)); (case aO => exact o6); (case aS => exact o3); (case aL => simp); intro v2_ w2_ ho hb hg hat; obtain ⟨rh2, rn2, rc2, rfl, rb2, rl2, rr2, rx2, ry2⟩ := impl_parse.row2 ho; have T1 := aM (impl_parse.Two.start o1 o2 o3 o4 o5 o6 L2.out HAT2.out hg rb2 rr2 rx2 ry2 (rn2 := rn2)); have e40 := blk_cell T1.out.blk 0; have e41 := blk_cell T1.out.blk 1; have f40 := blk_frozen T1.out.blk 0; have f41 := blk_frozen T1.out.blk 1; clear ho hb hg hat rr2 rx2 ry2 o1 o2 o3 o4 o5 o6) | (go_at_call 61; refine (strings_Contains.calls _ _ true _ HC2.out).mono ?_; rintro e wd ⟨rfl, hd⟩; have hb := Drawn0.below hd; have T2 := aM (((T1.out.put (.slice (some ⟨rh2, 0, none⟩) 2 rn2)).step (bA (Below.refl _ _) (.cells #[.string ⟨#[43, 46, 38]⟩, .string ⟨#[41]⟩] 9))).step hb); clear hd hb))
 rw [rounds_succ]
 go_wp2
 go_ret2
 exact ⟨_, rfl, T2.out.fin, T2.out.below⟩
theorem Tm.parse_lt (n : Nat) : ∀ (s : ByteArray) (t : Tm) (r : ByteArray), Tm.parse n s = some (t, r) → r.size < s.size := by
 induction n with
 | zero => intro s t r h; simp [Tm.parse] at h
 | succ n ih =>
  intro s t r h
  have ex : ∀ z : ByteArray, (z.extract 1 z.size).size = z.size - 1 := fun z => by simp
  unfold Tm.parse at h
  split at h
  ·cases h
  rename_i h0
  split at h
  ·simp only [Option.some.injEq, Prod.mk.injEq] at h
   rw [← h.2, ex]; omega
  split at h
  ·obtain ⟨⟨a, q⟩, h1, h2⟩ := Option.bind_eq_some_iff.mp h
   simp only [Option.some.injEq, Prod.mk.injEq] at h2
   have := ih _ _ _ h1
   rw [ex] at this
   rw [← h2.2]; omega
  split at h
  ·obtain ⟨⟨a, q⟩, h1, h2⟩ := Option.bind_eq_some_iff.mp h
   have l1 := ih _ _ _ h1
   rw [ex] at l1
   simp only at h2
   split at h2
   ·cases h2
   split at h2
   ·obtain ⟨⟨b, z⟩, h3, h4⟩ := Option.bind_eq_some_iff.mp h2
    have l2 := ih _ _ _ h3
    rw [ex] at l2
    simp only at h4
    split at h4
    ·cases h4
    split at h4
    ·simp only [Option.some.injEq, Prod.mk.injEq] at h4
     rw [← h4.2, ex]; omega
    ·cases h4
   ·cases h2
  ·cases h
/-- What the function hands back. -/
def impl_parse.Res (w : World) : Option (Tm × ByteArray) → Ending → World → Prop
 | none, e, w' => e = .returned (.tuple #[.pointer none, .string ⟨#[]⟩]) ∧ Below w.heap.size w w'
 | some (t, r), e, w' => ∃ v, e = .returned (.tuple #[v, .string r]) ∧ t.At w' w.heap.size w'.heap.size v ∧ Below w.heap.size w w'
theorem impl_parse.calls (n : Nat) : ∀ (s : ByteArray) (w : World), s.size < n → Calls Try.prog 39 #[.string s] w (impl_parse.Res w (Tm.parse n s)) := by
 induction n with
 | zero => intro s w h; omega
 | succ n ih =>
  intro s w h
  have ex : ∀ z : ByteArray, (z.extract 1 z.size).size = z.size - 1 := fun z => by simp
  unfold Tm.parse
  by_cases h0 : s.size = 0
  ·rw [if_pos h0]; exact impl_parse.empty s w h0
  rw [if_neg h0]
  by_cases h1 : bt s 0 = 48 ∨ bt s 0 = 49 ∨ bt s 0 = 97
  ·rw [if_pos h1]; exact impl_parse.leaf s w h0 _ rfl h1
  rw [if_neg h1]
  have i1 := fun W => ih (s.extract 1 s.size) W (by rw [ex]; omega)
  by_cases h2 : bt s 0 = 42 ∨ (50 ≤ bt s 0 ∧ bt s 0 ≤ 53)
  ·rw [if_pos h2]
   cases hp : Tm.parse n (s.extract 1 s.size) with
   | none => rw [hp] at i1; exact impl_parse.un_no s w h0 _ rfl h2 i1
   | some x => obtain ⟨a, r⟩ := x; rw [hp] at i1; exact impl_parse.un_yes s w h0 _ rfl h2 a r i1
  rw [if_neg h2]
  by_cases h3 : bt s 0 = 40
  ·rw [if_pos h3]
   cases hp : Tm.parse n (s.extract 1 s.size) with
   | none => rw [hp] at i1; exact impl_parse.two_no s w h0 h3 i1
   | some x =>
    obtain ⟨a, r⟩ := x
    rw [hp] at i1
    have l1 := Tm.parse_lt _ _ _ _ hp
    rw [ex] at l1
    simp only [Option.bind_some]
    by_cases h4 : r.size = 0
    ·rw [if_pos h4]; exact impl_parse.two_end s w h0 h3 a r i1 h4
    rw [if_neg h4]
    by_cases h5 : bt r 0 = 43 ∨ bt r 0 = 46 ∨ bt r 0 = 38
    ·rw [if_pos h5]
     have i2 := fun W => ih (r.extract 1 r.size) W (by rw [ex]; omega)
     cases hq : Tm.parse n (r.extract 1 r.size) with
     | none => rw [hq] at i2; exact impl_parse.two_none s w h0 h3 a r i1 h4 _ rfl h5 i2
     | some y =>
      obtain ⟨b, q⟩ := y
      rw [hq] at i2
      simp only [Option.bind_some]
      by_cases h6 : q.size = 0
      ·rw [if_pos h6]; exact impl_parse.two_open s w h0 h3 a r i1 h4 _ rfl h5 b q i2 h6
      rw [if_neg h6]
      by_cases h7 : bt q 0 = 41
      ·rw [if_pos h7]; exact impl_parse.two_yes s w h0 h3 a r i1 h4 _ rfl h5 b q i2 h6 h7
      ·rw [if_neg h7]; exact impl_parse.two_shut s w h0 h3 a r i1 h4 _ rfl h5 b q i2 h6 h7
    ·rw [if_neg h5]; exact impl_parse.two_sign s w h0 h3 a r i1 h4 _ rfl h5
  ·rw [if_neg h3]; exact impl_parse.bad s w h0 _ rfl h1 h2 h3
/-- The term of a text. -/
def Tm.of (s : ByteArray) : Option Tm := if s.size ≤ 60 then (Tm.parse 61 s).bind fun x => if x.2.size = 0 then some x.1 else none else none
/-- What the function hands back. -/
def impl_termOf.Res (w : World) : Option Tm → Ending → World → Prop
 | none, e, w' => e = .returned (.pointer none) ∧ Below w.heap.size w w'
 | some t, e, w' => ∃ g, e = .returned (.pointer (some ⟨g, 0, none⟩)) ∧ t.At w' w.heap.size w'.heap.size (.pointer (some ⟨g, 0, none⟩)) ∧ Below w.heap.size w w'
set_option maxHeartbeats 2000000 in
set_option maxRecDepth 100000 in
theorem impl_termOf.calls (s : ByteArray) (w : World) : Calls Try.prog 25 #[.string s] w (impl_termOf.Res w (Tm.of s)) := by
 unfold Tm.of
 by_cases h : s.size ≤ 60
 ·rw [if_pos h]
  have hl : ¬ (60 : Int) < (s.size : Int) := by omega
  have hd : decide ((60 : Int) < (s.size : Int)) = false := decide_eq_false hl
  have C := aM (impl_parse.calls 61 s w (by omega))
  cases hp : Tm.parse 61 s with
  | none =>
   rw [hp] at C
   have C0 : Calls Try.prog 39 #[.string s] w fun e w' => e = .returned (.tuple #[.pointer none, .string ⟨#[]⟩]) ∧ Below w.heap.size w w' := C.out
   clear C
   go_enter Try.func25, Try.ntmps25
   go_wp2_with (go_at_call 39; refine C0.mono ?_; rintro e w1 ⟨rfl, hb⟩; have HB := aM hb; clear hb)
   go_ret
   exact ⟨rfl, HB.out⟩
  | some x =>
   obtain ⟨t, r⟩ := x
   rw [hp] at C
   have C0 : Calls Try.prog 39 #[.string s] w fun e w' => ∃ v, e = .returned (.tuple #[v, .string r]) ∧ t.At w' w.heap.size w'.heap.size v ∧ Below w.heap.size w w' := C.out
   clear C
   simp only [Option.bind_some]
   by_cases hr : r.size = 0
   ·rw [if_pos hr]
    have hr0 : r.toList.isEmpty = true := by rw [impl_parse.isEmpty, decide_eq_true hr]
    go_enter Try.func25, Try.ntmps25
    go_wp2_with (go_at_call 39; refine C0.mono ?_; rintro e w1 ⟨v, rfl, hat, hb⟩; have HB := aM hb; have HAT := aM hat; obtain ⟨p, _, _, rfl⟩ := hat.ptr; clear hb hat)
    go_ret
    exact ⟨p, rfl, HAT.out, HB.out⟩
   ·rw [if_neg hr]
    have hr0 : r.toList.isEmpty = false := by rw [impl_parse.isEmpty, decide_eq_false hr]
    go_enter Try.func25, Try.ntmps25
    go_wp2_with (go_at_call 39; refine C0.mono ?_; rintro e w1 ⟨v, rfl, hat, hb⟩; have HB := aM hb; clear hb hat)
    go_ret
    exact ⟨rfl, HB.out⟩
 ·rw [if_neg h]
  have hl : (60 : Int) < (s.size : Int) := by omega
  have hd : decide ((60 : Int) < (s.size : Int)) = true := decide_eq_true hl
  go_enter Try.func25, Try.ntmps25
  go_wp2
  go_ret
  exact ⟨rfl, Below.refl _ _⟩
def impl_term_set.f (k : Nat) : Tm → Option (ByteArray × Bool)
 | .leaf c => if c = 48 then some (⟨#[40, 48, 41]⟩, true) else if c = 49 then some (⟨#[49, 40, 48, 41]⟩, true) else if c = 97 then some (⟨#[48, 49, 40, 48, 41]⟩, true) else none
 | .un c a => (impl_term_set.f k a).bind fun x => if x.2 = true then (if c = 42 then impl_StarOf.f k x.1 else if 50 ≤ c ∧ c ≤ 53 then impl_SumTimes.f k x.1 (c - 48) else none) else some (⟨#[]⟩, false)
 | .bin c a b => (impl_term_set.f k a).bind fun x => if x.2 = true then ((impl_term_set.f k b).bind fun y => if y.2 = true then (if c = 43 then impl_MakeEither.f k x.1 y.1 else if c = 46 then impl_SumOf.f k x.1 y.1 else if c = 38 then impl_MakeBoth.f k x.1 y.1 else none) else some (⟨#[]⟩, false)) else some (⟨#[]⟩, false)
theorem impl_term_set.mono : ∀ t k, LeO (impl_term_set.f k t) (impl_term_set.f (k + 1) t) := by
 intro t k
 induction t with
 | leaf c => exact LeO.refl _
 | un c a ih =>
  unfold impl_term_set.f
  repeat' first
   |(with_reducible exact ih)
   |(with_reducible exact impl_StarOf.mono _ _)
   |(with_reducible exact impl_SumTimes.mono _ _ _)
   |(with_reducible exact LeO.refl _)
   |(with_reducible refine LeO.ite ?_ ?_)
   |(with_reducible refine LeO.bind ?_ (fun _ => ?_))
 | bin c a b ih1 ih2 =>
  unfold impl_term_set.f
  repeat' first
   |(with_reducible exact ih1)
   |(with_reducible exact ih2)
   |(with_reducible exact impl_MakeEither.mono _ _ _)
   |(with_reducible exact impl_SumOf.mono _ _ _)
   |(with_reducible exact impl_MakeBoth.mono _ _ _)
   |(with_reducible exact LeO.refl _)
   |(with_reducible refine LeO.ite ?_ ?_)
   |(with_reducible refine LeO.bind ?_ (fun _ => ?_))
/-- A row of texts, cell by cell. -/
theorem impl_term_set.row {w : World} {base : Nat} {ok : Nat → Prop} {v : Value} {xs : List ByteArray} (h : Kd.string.R 9 w base ok v xs) (hp : 0 < xs.length) : ∃ h n, v = .slice (some ⟨h, 0, none⟩) xs.length n ∧ base ≤ h ∧ h < w.heap.size ∧ ∀ i, i < xs.length → w.cell? ⟨h, i, none⟩ = some (.string (xs.getD i ByteArray.empty)) := by
 obtain ⟨g, cap, rfl, h1, h2, cells, h3⟩ := Kd.R_form h hp
 refine ⟨g, cap, rfl, h1, h2, fun i hi => ?_⟩
 obtain ⟨ad, c, e, _, hk, hc⟩ := Kd.C_get (Kd.R_reads' h).2.2 ByteArray.empty (i : Int) (by omega) (by omega)
 obtain rfl := Option.some.inj e
 have hk' : c = [Value.string (xs.getD i ByteArray.empty)] := hk
 have := hc 0 (.string (xs.getD i ByteArray.empty)) (by rw [hk']; rfl)
 rw [show ((i : Int).toNat * Kd.string.sz + 0) = i by simp [Kd.string, Kd.scalar], add_plain] at this
 exact this
theorem impl_term_set.row1 {w : World} {base : Nat} {ok : Nat → Prop} {v : Value} {x : ByteArray} (h : Kd.string.R 9 w base ok v [x]) : ∃ h n, v = .slice (some ⟨h, 0, none⟩) 1 n ∧ base ≤ h ∧ h < w.heap.size ∧ w.cell? ⟨h, 0, none⟩ = some (.string x) := by
 obtain ⟨h, n, h1, h2, h3, h4⟩ := impl_term_set.row h (by simp)
 exact ⟨h, n, h1, h2, h3, h4 0 (by simp)⟩
theorem impl_term_set.row2 {w : World} {base : Nat} {ok : Nat → Prop} {v : Value} {x y : ByteArray} (h : Kd.string.R 9 w base ok v [x, y]) : ∃ h n, v = .slice (some ⟨h, 0, none⟩) 2 n ∧ base ≤ h ∧ h < w.heap.size ∧ w.cell? ⟨h, 0, none⟩ = some (.string x) ∧ w.cell? ⟨h, 1, none⟩ = some (.string y) := by
 obtain ⟨h, n, h1, h2, h3, h4⟩ := impl_term_set.row h (by simp)
 exact ⟨h, n, h1, h2, h3, h4 0 (by simp), h4 1 (by simp)⟩
theorem impl_term_set.infoS : (Try.prog.info? 9).map (fun i => (i.zero, i.size, i.bytes)) = some (some (.string ⟨#[]⟩), 1, 16) := by kernel_rfl
set_option maxHeartbeats 4000000 in
set_option maxRecDepth 100000 in
theorem impl_term_set.leaf_zero (k : Nat) (g : Nat) (w : World) (hb : w.heap[g]? = some (.cells #[.int .u8 48, .slice none 0 0] 72 (0, 0))) :
  Calls Try.prog 31 #[.pointer (some ⟨g, 0, none⟩)] w fun e w' => e = .returned (.tuple #[.string ⟨#[40, 48, 41]⟩, .bool true]) ∧ Below w.heap.size w w' := by
 have e0 := blk_cell hb 0
 have e1 := blk_cell hb 1
 go_enter Try.func31, Try.ntmps31
 go_wp2
 refine wp_loop_rounds 1 ?_
 rw [rounds_succ]
 go_wp2
 go_ret2
 exact ⟨rfl, Below.refl _ _⟩
set_option maxHeartbeats 4000000 in
set_option maxRecDepth 100000 in
theorem impl_term_set.leaf_one (k : Nat) (g : Nat) (w : World) (hb : w.heap[g]? = some (.cells #[.int .u8 49, .slice none 0 0] 72 (0, 0))) :
  Calls Try.prog 31 #[.pointer (some ⟨g, 0, none⟩)] w fun e w' => e = .returned (.tuple #[.string ⟨#[49, 40, 48, 41]⟩, .bool true]) ∧ Below w.heap.size w w' := by
 have e0 := blk_cell hb 0
 have e1 := blk_cell hb 1
 go_enter Try.func31, Try.ntmps31
 go_wp2
 refine wp_loop_rounds 1 ?_
 rw [rounds_succ]
 go_wp2
 go_ret2
 exact ⟨rfl, Below.refl _ _⟩
set_option maxHeartbeats 4000000 in
set_option maxRecDepth 100000 in
theorem impl_term_set.leaf_a (k : Nat) (g : Nat) (w : World) (hb : w.heap[g]? = some (.cells #[.int .u8 97, .slice none 0 0] 72 (0, 0))) :
  Calls Try.prog 31 #[.pointer (some ⟨g, 0, none⟩)] w fun e w' => e = .returned (.tuple #[.string ⟨#[48, 49, 40, 48, 41]⟩, .bool true]) ∧ Below w.heap.size w w' := by
 have e0 := blk_cell hb 0
 have e1 := blk_cell hb 1
 go_enter Try.func31, Try.ntmps31
 go_wp2
 refine wp_loop_rounds 1 ?_
 rw [rounds_succ]
 go_wp2
 go_ret2
 exact ⟨rfl, Below.refl _ _⟩
set_option maxHeartbeats 4000000 in
set_option maxRecDepth 100000 in
theorem impl_term_set.un_no (k : Nat) (g h n : Nat) (c : Int) (cs : Array Value) (x : Value) (w : World) (hb : w.heap[g]? = some (.cells #[.int .u8 c, .slice (some ⟨h, 0, none⟩) 1 n] 72 (0, 0))) (hr : w.heap[h]? = some (.cells cs 42 (0, 0))) (hx : cs[0]? = some x) (s : ByteArray) (ih : ∀ W, Below w.heap.size w W → Calls Try.prog 31 #[x] W fun e w' => e = .returned (.tuple #[.string s, .bool false]) ∧ Below W.heap.size W w') :
  Calls Try.prog 31 #[.pointer (some ⟨g, 0, none⟩)] w fun e w' => e = .returned (.tuple #[.string ⟨#[]⟩, .bool false]) ∧ Below w.heap.size w w' := by
 have e0 := blk_cell hb 0
 have e1 := blk_cell hb 1
 have e2 : w.cell? ⟨h, 0, none⟩ = some x := (blk_cell hr 0).trans hx
 have BT := aM hb
 have IH := aM ih
 have HR := aM hr; have HX := aM hx
 clear ih hb hr hx
 go_enter Try.func31, Try.ntmps31
 go_wp2
 refine wp_loop_rounds 1 ?_
 rw [rounds_succ]
 go_wp2_with (go_at_call_of 31 x; refine (IH.out _ (Below.refl _ _)).mono ?_; rintro e w1 ⟨rfl, hd⟩; have HB1 := aM (below_step (Below.refl _ _) hd); clear hd)
 go_ret2
 exact ⟨rfl, HB1.out⟩
set_option maxHeartbeats 4000000 in
set_option maxRecDepth 100000 in
theorem impl_term_set.star (k : Nat) (g h n : Nat) (c : Int) (cs : Array Value) (x : Value) (w : World) (hb : w.heap[g]? = some (.cells #[.int .u8 c, .slice (some ⟨h, 0, none⟩) 1 n] 72 (0, 0))) (hr : w.heap[h]? = some (.cells cs 42 (0, 0))) (hx : cs[0]? = some x) (hc : c = 42) (s : ByteArray) (ih : ∀ W, Below w.heap.size w W → Calls Try.prog 31 #[x] W fun e w' => e = .returned (.tuple #[.string s, .bool true]) ∧ Below W.heap.size W w') (r1 : ByteArray) (r2 : Bool) (h9 : impl_StarOf.f k s = some (r1, r2)) :
  Calls Try.prog 31 #[.pointer (some ⟨g, 0, none⟩)] w fun e w' => e = .returned (.tuple #[.string r1, .bool r2]) ∧ Below w.heap.size w w' := by
 subst hc
 have e0 := blk_cell hb 0
 have e1 := blk_cell hb 1
 have e2 : w.cell? ⟨h, 0, none⟩ = some x := (blk_cell hr 0).trans hx
 have BT := aM hb
 have IH := aM ih
 have HR := aM hr; have HX := aM hx
 clear ih hb hr hx
 have H9 := aM h9
 clear h9
 go_enter Try.func31, Try.ntmps31
 go_wp2
 refine wp_loop_rounds 2 ?_
 rw [rounds_succ]
 go_wp2_with (first | (go_at_call_of 31 x; refine (IH.out _ (Below.refl _ _)).mono ?_; rintro e w1 ⟨rfl, hd⟩; have HB1 := aM (below_step (Below.refl _ _) hd); have g10 := blk_cell (blk_below BT.out hd) 0; have g11 := blk_cell (blk_below BT.out hd) 1; clear hd) | ((with_reducible refine gate_builtin (b := .append) (xs := #[.tmp 25, .tmp 27]) rfl ?_); at_builtin; refine Kd.R_append Kd.string (w0 := w) w.heap.size rfl (.tmp 25) (.tmp 27) 65 9 (.string ⟨#[]⟩) 16 rfl Try.underlying65 impl_term_set.infoS rfl (by decide) (by omega) (.slice none 0 0) ([] : List ByteArray) s [.string s] (fun _ => True) (fun _ => False) rfl rfl ?aP (fun _ hk => hk.elim) ?aF ?aO ?aB ?aS ?aL ?_; (case aP => exact rfl); (case aB => exact HB1.out); (case aF => exact (fun _ _ => trivial)); (case aO => exact (Kd.R_nil _ _ _ _ _)); (case aS => exact HB1.out.size); (case aL => simp); intro v1_ w1_ ho hb hg hat; obtain ⟨rh1, rn1, rfl, rb1, rl1, rc1⟩ := impl_term_set.row1 ho; have HR1 := aM ho; have HG1 := aM hb; have g20 := blk_cell (blk_below BT.out hb) 0; have g21 := blk_cell (blk_below BT.out hb) 1; clear ho hb hg hat))
 rw [rounds_succ]
 have HG2 := aM HG1.out
 go_wp2_with (go_at_call 46; refine (impl_StarOf.calls k s r1 r2 _ H9.out).mono ?_; rintro e w9 ⟨rfl, hd⟩; have HB9 := aM (below_step HG2.out hd); clear hd)
 go_ret2
 exact ⟨rfl, HB9.out⟩
def impl_term_set.T25 : Bool × List (List Nat × List Nat) := (true, [([], []), ([0], [0]), ([1], [1]), ([], []), ([3], [3]), ([4], [4]), ([5], [5]), ([6], [6]), ([7], [7]), ([2, 8], [2, 8]), ([9], [9]), ([9], [9]), ([10, 9, 0, 1, 2, 3, 4, 5, 6, 7, 8, 9, 10, 11], [10]), ([11, 12, 0, 1, 2, 3, 4, 5, 6, 7, 8, 9, 10, 11, 12], [11])])
def impl_term_set.B25 : List Nat := [0, 1, 3, 0, 8, 24, 56, 120, 248, 511, 1023, 1023, 4095, 8191]
theorem impl_term_set.tab25 : rtab .any (opsOf Try.f31 25) = impl_term_set.T25 := by kernel_rfl
theorem impl_term_set.bits25 : waitsOk impl_term_set.T25.2 impl_term_set.B25 = true := by kernel_rfl
def impl_term_set.T20 : Bool × List (List Nat × List Nat) := (true, [([], []), ([0], [0]), ([1], [1]), ([], []), ([3], [3]), ([4], [4]), ([2, 5], [2, 5]), ([6], [6]), ([6], [6]), ([7, 6, 0, 1, 2, 3, 4, 5, 6, 7, 8], [7]), ([8, 9, 0, 1, 2, 3, 4, 5, 6, 7, 8, 9], [8])])
def impl_term_set.B20 : List Nat := [0, 1, 3, 0, 8, 24, 63, 127, 127, 511, 1023]
theorem impl_term_set.tab20 : rtab .any (opsOf Try.f31 20) = impl_term_set.T20 := by kernel_rfl
theorem impl_term_set.bits20 : waitsOk impl_term_set.T20.2 impl_term_set.B20 = true := by kernel_rfl
def impl_term_set.T22 : Bool × List (List Nat × List Nat) := (true, [([], []), ([0], [0]), ([1], [1]), ([], []), ([3], [3]), ([4], [4]), ([2, 5], [2, 5]), ([6], [6]), ([6], [6]), ([7, 6, 0, 1, 2, 3, 4, 5, 6, 7, 8], [7]), ([8, 9, 0, 1, 2, 3, 4, 5, 6, 7, 8, 9], [8])])
def impl_term_set.B22 : List Nat := [0, 1, 3, 0, 8, 24, 63, 127, 127, 511, 1023]
theorem impl_term_set.tab22 : rtab .any (opsOf Try.f31 22) = impl_term_set.T22 := by kernel_rfl
theorem impl_term_set.bits22 : waitsOk impl_term_set.T22.2 impl_term_set.B22 = true := by kernel_rfl
def impl_term_set.T24 : Bool × List (List Nat × List Nat) := (true, [([], []), ([0], [0]), ([1], [1]), ([], []), ([3], [3]), ([4], [4]), ([2, 5], [2, 5]), ([6], [6]), ([6], [6]), ([7, 6, 0, 1, 2, 3, 4, 5, 6, 7, 8], [7]), ([8, 9, 0, 1, 2, 3, 4, 5, 6, 7, 8, 9], [8])])
def impl_term_set.B24 : List Nat := [0, 1, 3, 0, 8, 24, 63, 127, 127, 511, 1023]
theorem impl_term_set.tab24 : rtab .any (opsOf Try.f31 24) = impl_term_set.T24 := by kernel_rfl
theorem impl_term_set.bits24 : waitsOk impl_term_set.T24.2 impl_term_set.B24 = true := by kernel_rfl
set_option maxHeartbeats 4000000 in
set_option maxRecDepth 100000 in
theorem impl_term_set.times (k : Nat) (g h n : Nat) (c : Int) (cs : Array Value) (x : Value) (w : World) (hb : w.heap[g]? = some (.cells #[.int .u8 c, .slice (some ⟨h, 0, none⟩) 1 n] 72 (0, 0))) (hr : w.heap[h]? = some (.cells cs 42 (0, 0))) (hx : cs[0]? = some x) (hc : 50 ≤ c ∧ c ≤ 53) (s : ByteArray) (ih : ∀ W, Below w.heap.size w W → Calls Try.prog 31 #[x] W fun e w' => e = .returned (.tuple #[.string s, .bool true]) ∧ Below W.heap.size W w') (r1 : ByteArray) (r2 : Bool) (h9 : impl_SumTimes.f k s (c - 48) = some (r1, r2)) :
  Calls Try.prog 31 #[.pointer (some ⟨g, 0, none⟩)] w fun e w' => e = .returned (.tuple #[.string r1, .bool r2]) ∧ Below w.heap.size w w' := by
 have e0 := blk_cell hb 0
 have e1 := blk_cell hb 1
 have e2 : w.cell? ⟨h, 0, none⟩ = some x := (blk_cell hr 0).trans hx
 have BT := aM hb
 have IH := aM ih
 have HR := aM hr; have HX := aM hx
 clear ih hb hr hx
 have H9 := aM h9
 have n0 : (c == 48) = false := beq_eq_false_iff_ne.mpr (by omega)
 have n1 : (c == 49) = false := beq_eq_false_iff_ne.mpr (by omega)
 have n2 : (c == 97) = false := beq_eq_false_iff_ne.mpr (by omega)
 have n3 : (c == 42) = false := beq_eq_false_iff_ne.mpr (by omega)
 have n4 : (c == 43) = false := beq_eq_false_iff_ne.mpr (by omega)
 have n5 : (c == 46) = false := beq_eq_false_iff_ne.mpr (by omega)
 have n6 : (c == 38) = false := beq_eq_false_iff_ne.mpr (by omega)
 have hm : (c - 48) % 256 = c - 48 := by omega
 have hw : wrap64 (c - 48) = c - 48 := by unfold wrap64; omega
 have hw8 : IntKind.u8.wrap (c - 48) = c - 48 := by rw [show IntKind.u8.wrap (c - 48) = (c - 48) % 256 from rfl]; exact hm
 have hw64 : IntKind.i64.wrap (c - 48) = c - 48 := by rw [IntKind.wrap_i64]; omega
 clear h9 hc
 go_enter Try.func31, Try.ntmps31
 go_wp2
 refine wp_loop_rounds 2 ?_
 rw [rounds_succ]
 go_wp2_with (first | (go_at_call_of 31 x; refine (IH.out _ (Below.refl _ _)).mono ?_; rintro e w1 ⟨rfl, hd⟩; have HB1 := aM (below_step (Below.refl _ _) hd); have g10 := blk_cell (blk_below BT.out hd) 0; have g11 := blk_cell (blk_below BT.out hd) 1; clear hd) | ((with_reducible refine gate_builtin (b := .append) (xs := #[.tmp 25, .tmp 27]) rfl ?_); at_builtin; refine Kd.R_append Kd.string (w0 := w) w.heap.size rfl (.tmp 25) (.tmp 27) 65 9 (.string ⟨#[]⟩) 16 rfl Try.underlying65 impl_term_set.infoS rfl (by decide) (by omega) (.slice none 0 0) ([] : List ByteArray) s [.string s] (fun _ => True) (fun _ => False) rfl rfl ?aP (fun _ hk => hk.elim) ?aF ?aO ?aB ?aS ?aL ?_; (case aP => exact rfl); (case aB => exact HB1.out); (case aF => exact (fun _ _ => trivial)); (case aO => exact (Kd.R_nil _ _ _ _ _)); (case aS => exact HB1.out.size); (case aL => simp); intro v1_ w1_ ho hb hg hat; obtain ⟨rh1, rn1, rfl, rb1, rl1, rc1⟩ := impl_term_set.row1 ho; have HR1 := aM ho; have HG1 := aM hb; have g20 := blk_cell (blk_below BT.out hb) 0; have g21 := blk_cell (blk_below BT.out hb) 1; clear ho hb hg hat))
 rw [rounds_succ]
 have HG2 := aM HG1.out
 go_wp2
 have HB8 := aM (b1 HG2.out)
 have C0 := aM (show w1_.drew.cell? ⟨rh1, 0, none⟩ = some (.string s) from rc1)
 have C1 := aM (show w1_.drew.cell? ⟨g, 0, none⟩ = some (.int .u8 c) from g20)
 refine start_ (n := 14) (S := fun w' => w'.cell? ⟨rh1, 0, none⟩ = some (.string s) ∧ w'.cell? ⟨g, 0, none⟩ = some (.int .u8 c)) (ds := []) #[false, false, false, false, false, false, false, false, false, false, false, false, false, false] (by kernel_rfl) rfl rfl ⟨C0.out, C1.out⟩ (fun hHeld => ?_); refine with_tabW impl_term_set.tab25 impl_term_set.bits25 (fun HT_ HW_ => ?_)
 generalize w1_.drew = W9 at HB8 C0 C1 hHeld ⊢
 refine pure_ (i := 0) (N := some 81) (v := ?_) (a' := ?_) #[true, false, false, false, false, false, false, false, false, false, false, false, false, false] rfl rfl (any_of HT_.out (by kernel_rfl)) (fun _ _ _ h => h) (Or.inl ⟨by rfl, ?_⟩) ?_ ?_
 rotate_left
 ·intro w'
  go_simp
  with_reducible rfl
 rotate_left
 ·simp only [Act.put, sA, sZ, sS, i64_w, i32_w]
  rfl
 refine pure_ (i := 1) (N := some 82) (v := ?_) (a' := ?_) #[true, true, false, false, false, false, false, false, false, false, false, false, false, false] rfl rfl (any_of HT_.out (by kernel_rfl)) (fun _ _ _ h => h) (Or.inl ⟨by rfl, ?_⟩) ?_ ?_
 rotate_left
 ·intro w'
  go_simp
  with_reducible rfl
 rotate_left
 ·simp only [Act.put, sA, sZ, sS, i64_w, i32_w]
  rfl
 refine take_ (i := 2) (N := some 83) (v := ?_) (a' := ?_) #[true, true, true, false, false, false, false, false, false, false, false, false, false, false] rfl rfl (take_ofW HT_.out HW_.out (by kernel_rfl)) (fun _ _ _ h => h) (Or.inl ⟨by rfl, ?_⟩) hHeld ?_ ?_
 rotate_left
 ·rintro w' ⟨s0, s1⟩
  go_simp
  with_reducible rfl
 rotate_left
 ·simp only [Act.put, sA, sZ, sS, i64_w, i32_w]
  rfl
 refine pure_ (i := 3) (N := some 84) (v := ?_) (a' := ?_) #[true, true, true, true, false, false, false, false, false, false, false, false, false, false] rfl rfl (any_of HT_.out (by kernel_rfl)) (fun _ _ _ h => h) (Or.inl ⟨by rfl, ?_⟩) ?_ ?_
 rotate_left
 ·intro w'
  go_simp
  with_reducible rfl
 rotate_left
 ·simp only [Act.put, sA, sZ, sS, i64_w, i32_w]
  rfl
 refine pure_ (i := 4) (N := some 85) (v := ?_) (a' := ?_) #[true, true, true, true, true, false, false, false, false, false, false, false, false, false] rfl rfl (any_of HT_.out (by kernel_rfl)) (fun _ _ _ h => h) (Or.inl ⟨by rfl, ?_⟩) ?_ ?_
 rotate_left
 ·intro w'
  go_simp
  with_reducible rfl
 rotate_left
 ·simp only [Act.put, sA, sZ, sS, i64_w, i32_w]
  rfl
 refine pure_ (i := 5) (N := some 86) (v := ?_) (a' := ?_) #[true, true, true, true, true, true, false, false, false, false, false, false, false, false] rfl rfl (any_of HT_.out (by kernel_rfl)) (fun _ _ _ h => h) (Or.inl ⟨by rfl, ?_⟩) ?_ ?_
 rotate_left
 ·intro w'
  go_simp
  with_reducible rfl
 rotate_left
 ·simp only [Act.put, sA, sZ, sS, i64_w, i32_w]
  rfl
 refine take_ (i := 6) (N := some 87) (v := ?_) (a' := ?_) #[true, true, true, true, true, true, true, false, false, false, false, false, false, false] rfl rfl (take_ofW HT_.out HW_.out (by kernel_rfl)) (fun _ _ _ h => h) (Or.inl ⟨by rfl, ?_⟩) hHeld ?_ ?_
 rotate_left
 ·rintro w' ⟨s0, s1⟩
  go_simp
  with_reducible rfl
 rotate_left
 ·simp only [Act.put, sA, sZ, sS, i64_w, i32_w]
  rfl
 refine pure_ (i := 7) (N := some 88) (v := ?_) (a' := ?_) #[true, true, true, true, true, true, true, true, false, false, false, false, false, false] rfl rfl (any_of HT_.out (by kernel_rfl)) (fun _ _ _ h => h) (Or.inl ⟨by rfl, ?_⟩) ?_ ?_
 rotate_left
 ·intro w'
  go_simp
  with_reducible rfl
 rotate_left
 ·simp only [Act.put, sA, sZ, sS, i64_w, i32_w]
  rfl
 refine pure_ (i := 8) (N := some 89) (v := ?_) (a' := ?_) #[true, true, true, true, true, true, true, true, true, false, false, false, false, false] rfl rfl (any_of HT_.out (by kernel_rfl)) (fun _ _ _ h => h) (Or.inl ⟨by rfl, ?_⟩) ?_ ?_
 rotate_left
 ·intro w'
  go_simp
  with_reducible rfl
 rotate_left
 ·simp only [Act.put, sA, sZ, sS, i64_w, i32_w]
  rfl
 refine one_ (i := 9) (N := some 90) #[true, true, true, true, true, true, true, true, true, true, false, false, false, false] rfl rfl (one_of HT_.out (by kernel_rfl)) (by decide) (fun K hK => ?_)
 refine goes_ Try.func50 (by kernel_rfl) rfl #[.string s, .int .i64 (c - 48)] (by rfl) rfl rfl (by (try simp only [List.map_toArray, List.map_cons, List.map_nil]); first | done | rfl) ?_
 refine (impl_SumTimes.calls k s (c - 48) r1 r2 _ H9.out).mono ?_
 rintro e w9 ⟨rfl, hd⟩
 refine ⟨_, rfl, ?_⟩
 have HB9 := aM (below_step HB8.out hd)
 refine hK.out _ _ ⟨pw_cell_below hd C0.out, pw_cell_below hd C1.out⟩ (fun hHeld => ?_)
 clear hK K
 refine norm_ (a' := ?_) ?_ ?_
 rotate_left
 ·show Act.put _ (some 90) _ = _
  simp only [Act.put, sA, sZ, sS, i64_w, i32_w]
  rfl
 refine pure_ (i := 10) (N := some 91) (v := ?_) (a' := ?_) #[true, true, true, true, true, true, true, true, true, true, true, false, false, false] rfl rfl (any_of HT_.out (by kernel_rfl)) (fun _ _ _ h => h) (Or.inl ⟨by rfl, ?_⟩) ?_ ?_
 rotate_left
 ·intro w'
  go_simp
  with_reducible rfl
 rotate_left
 ·simp only [Act.put, sA, sZ, sS, i64_w, i32_w]
  rfl
 refine pure_ (i := 11) (N := some 92) (v := ?_) (a' := ?_) #[true, true, true, true, true, true, true, true, true, true, true, true, false, false] rfl rfl (any_of HT_.out (by kernel_rfl)) (fun _ _ _ h => h) (Or.inl ⟨by rfl, ?_⟩) ?_ ?_
 rotate_left
 ·intro w'
  go_simp
  with_reducible rfl
 rotate_left
 ·simp only [Act.put, sA, sZ, sS, i64_w, i32_w]
  rfl
 refine pure_ (i := 12) (N := some 2) (v := ?_) (a' := ?_) #[true, true, true, true, true, true, true, true, true, true, true, true, true, false] rfl rfl (any_of HT_.out (by kernel_rfl)) (fun _ _ _ h => h) (Or.inl ⟨by rfl, ?_⟩) ?_ ?_
 rotate_left
 ·intro w'
  go_simp
  with_reducible rfl
 rotate_left
 ·simp only [Act.put, sA, sZ, sS, i64_w, i32_w]
  rfl
 refine pure_ (i := 13) (N := some 3) (v := ?_) (a' := ?_) #[true, true, true, true, true, true, true, true, true, true, true, true, true, true] rfl rfl (any_of HT_.out (by kernel_rfl)) (fun _ _ _ h => h) (Or.inl ⟨by rfl, ?_⟩) ?_ ?_
 rotate_left
 ·intro w'
  go_simp
  with_reducible rfl
 rotate_left
 ·simp only [Act.put, sA, sZ, sS, i64_w, i32_w]
  rfl
 refine done_ (done_of HT_.out (by kernel_rfl)) ?_
 go_wp2
 go_ret2
 exact ⟨rfl, HB9.out⟩
set_option maxHeartbeats 4000000 in
set_option maxRecDepth 100000 in
theorem impl_term_set.bin_no (k : Nat) (g h n : Nat) (c : Int) (cs : Array Value) (x y : Value) (w : World) (hb : w.heap[g]? = some (.cells #[.int .u8 c, .slice (some ⟨h, 0, none⟩) 2 n] 72 (0, 0))) (hr : w.heap[h]? = some (.cells cs 42 (0, 0))) (hx : cs[0]? = some x) (hy : cs[1]? = some y) (s : ByteArray) (ih : ∀ W, Below w.heap.size w W → Calls Try.prog 31 #[x] W fun e w' => e = .returned (.tuple #[.string s, .bool false]) ∧ Below W.heap.size W w') :
  Calls Try.prog 31 #[.pointer (some ⟨g, 0, none⟩)] w fun e w' => e = .returned (.tuple #[.string ⟨#[]⟩, .bool false]) ∧ Below w.heap.size w w' := by
 have e0 := blk_cell hb 0
 have e1 := blk_cell hb 1
 have e2 : w.cell? ⟨h, 0, none⟩ = some x := (blk_cell hr 0).trans hx
 have BT := aM hb
 have IH := aM ih
 have HR := aM hr; have HX := aM hx; have HY := aM hy
 clear ih hb hr hx hy
 go_enter Try.func31, Try.ntmps31
 go_wp2
 refine wp_loop_rounds 1 ?_
 rw [rounds_succ]
 go_wp2_with (go_at_call_of 31 x; refine (IH.out _ (Below.refl _ _)).mono ?_; rintro e w1 ⟨rfl, hd⟩; have HB1 := aM (below_step (Below.refl _ _) hd); clear hd)
 go_ret2
 exact ⟨rfl, HB1.out⟩
set_option maxHeartbeats 4000000 in
set_option maxRecDepth 100000 in
theorem impl_term_set.bin_no2 (k : Nat) (g h n : Nat) (c : Int) (cs : Array Value) (x y : Value) (w : World) (hb : w.heap[g]? = some (.cells #[.int .u8 c, .slice (some ⟨h, 0, none⟩) 2 n] 72 (0, 0))) (hr : w.heap[h]? = some (.cells cs 42 (0, 0))) (hx : cs[0]? = some x) (hy : cs[1]? = some y) (s u : ByteArray) (ih : ∀ W, Below w.heap.size w W → Calls Try.prog 31 #[x] W fun e w' => e = .returned (.tuple #[.string s, .bool true]) ∧ Below W.heap.size W w') (ih2 : ∀ W, Below w.heap.size w W → Calls Try.prog 31 #[y] W fun e w' => e = .returned (.tuple #[.string u, .bool false]) ∧ Below W.heap.size W w') :
  Calls Try.prog 31 #[.pointer (some ⟨g, 0, none⟩)] w fun e w' => e = .returned (.tuple #[.string ⟨#[]⟩, .bool false]) ∧ Below w.heap.size w w' := by
 have e0 := blk_cell hb 0
 have e1 := blk_cell hb 1
 have e2 : w.cell? ⟨h, 0, none⟩ = some x := (blk_cell hr 0).trans hx
 have BT := aM hb
 have IH := aM ih
 have HR := aM hr; have HX := aM hx; have HY := aM hy
 clear ih hb hr hx hy
 have IH2 := aM ih2
 clear ih2
 go_enter Try.func31, Try.ntmps31
 go_wp2
 refine wp_loop_rounds 2 ?_
 rw [rounds_succ]
 go_wp2_with (first | (go_at_call_of 31 x; refine (IH.out _ (Below.refl _ _)).mono ?_; rintro e w1 ⟨rfl, hd⟩; have HB1 := aM (below_step (Below.refl _ _) hd); have g10 := blk_cell (blk_below BT.out hd) 0; have g11 := blk_cell (blk_below BT.out hd) 1; clear hd) | ((with_reducible refine gate_builtin (b := .append) (xs := #[.tmp 25, .tmp 27]) rfl ?_); at_builtin; refine Kd.R_append Kd.string (w0 := w) w.heap.size rfl (.tmp 25) (.tmp 27) 65 9 (.string ⟨#[]⟩) 16 rfl Try.underlying65 impl_term_set.infoS rfl (by decide) (by omega) (.slice none 0 0) ([] : List ByteArray) s [.string s] (fun _ => True) (fun _ => False) rfl rfl ?aP (fun _ hk => hk.elim) ?aF ?aO ?aB ?aS ?aL ?_; (case aP => exact rfl); (case aB => exact HB1.out); (case aF => exact (fun _ _ => trivial)); (case aO => exact (Kd.R_nil _ _ _ _ _)); (case aS => exact HB1.out.size); (case aL => simp); intro v1_ w1_ ho hb hg hat; obtain ⟨rh1, rn1, rfl, rb1, rl1, rc1⟩ := impl_term_set.row1 ho; have HR1 := aM ho; have HG1 := aM hb; have g20 := blk_cell (blk_below BT.out hb) 0; have g21 := blk_cell (blk_below BT.out hb) 1; have y1 : w1_.cell? ⟨h, 1, none⟩ = some y := (blk_cell (blk_below HR.out hb) 1).trans HY.out; clear ho hb hg hat))
 rw [rounds_succ]
 go_wp2_with (go_at_call_of 31 y; refine (IH2.out _ HG1.out).mono ?_; rintro e w2 ⟨rfl, hd⟩; have HB2 := aM (below_step HG1.out hd); clear hd)
 go_ret2
 exact ⟨rfl, HB2.out⟩
set_option maxHeartbeats 4000000 in
set_option maxRecDepth 100000 in
theorem impl_term_set.either (k : Nat) (g h n : Nat) (c : Int) (cs : Array Value) (x y : Value) (w : World) (hb : w.heap[g]? = some (.cells #[.int .u8 c, .slice (some ⟨h, 0, none⟩) 2 n] 72 (0, 0))) (hr : w.heap[h]? = some (.cells cs 42 (0, 0))) (hx : cs[0]? = some x) (hy : cs[1]? = some y) (hc : c = 43) (s u : ByteArray) (ih : ∀ W, Below w.heap.size w W → Calls Try.prog 31 #[x] W fun e w' => e = .returned (.tuple #[.string s, .bool true]) ∧ Below W.heap.size W w') (ih2 : ∀ W, Below w.heap.size w W → Calls Try.prog 31 #[y] W fun e w' => e = .returned (.tuple #[.string u, .bool true]) ∧ Below W.heap.size W w') (r1 : ByteArray) (r2 : Bool) (h9 : impl_MakeEither.f k s u = some (r1, r2)) :
  Calls Try.prog 31 #[.pointer (some ⟨g, 0, none⟩)] w fun e w' => e = .returned (.tuple #[.string r1, .bool r2]) ∧ Below w.heap.size w w' := by
 subst hc
 have e0 := blk_cell hb 0
 have e1 := blk_cell hb 1
 have e2 : w.cell? ⟨h, 0, none⟩ = some x := (blk_cell hr 0).trans hx
 have BT := aM hb
 have IH := aM ih
 have HR := aM hr; have HX := aM hx; have HY := aM hy
 clear ih hb hr hx hy
 have IH2 := aM ih2
 clear ih2
 have H9 := aM h9
 clear h9
 go_enter Try.func31, Try.ntmps31
 go_wp2
 refine wp_loop_rounds 3 ?_
 rw [rounds_succ]
 go_wp2_with (first | (go_at_call_of 31 x; refine (IH.out _ (Below.refl _ _)).mono ?_; rintro e w1 ⟨rfl, hd⟩; have HB1 := aM (below_step (Below.refl _ _) hd); have g10 := blk_cell (blk_below BT.out hd) 0; have g11 := blk_cell (blk_below BT.out hd) 1; clear hd) | ((with_reducible refine gate_builtin (b := .append) (xs := #[.tmp 25, .tmp 27]) rfl ?_); at_builtin; refine Kd.R_append Kd.string (w0 := w) w.heap.size rfl (.tmp 25) (.tmp 27) 65 9 (.string ⟨#[]⟩) 16 rfl Try.underlying65 impl_term_set.infoS rfl (by decide) (by omega) (.slice none 0 0) ([] : List ByteArray) s [.string s] (fun _ => True) (fun _ => False) rfl rfl ?aP (fun _ hk => hk.elim) ?aF ?aO ?aB ?aS ?aL ?_; (case aP => exact rfl); (case aB => exact HB1.out); (case aF => exact (fun _ _ => trivial)); (case aO => exact (Kd.R_nil _ _ _ _ _)); (case aS => exact HB1.out.size); (case aL => simp); intro v1_ w1_ ho hb hg hat; obtain ⟨rh1, rn1, rfl, rb1, rl1, rc1⟩ := impl_term_set.row1 ho; have HR1 := aM ho; have HG1 := aM hb; have g20 := blk_cell (blk_below BT.out hb) 0; have g21 := blk_cell (blk_below BT.out hb) 1; have y1 : w1_.cell? ⟨h, 1, none⟩ = some y := (blk_cell (blk_below HR.out hb) 1).trans HY.out; clear ho hb hg hat))
 rw [rounds_succ]
 go_wp2_with (first | (go_at_call_of 31 y; refine (IH2.out _ HG1.out).mono ?_; rintro e w2 ⟨rfl, hd⟩; have HB2 := aM (below_step HG1.out hd); have g30 := blk_cell (blk_below BT.out HB2.out) 0; have g31 := blk_cell (blk_below BT.out HB2.out) 1; have HR2 := aM (Kd.R_below HR1.out hd); clear hd) | ((with_reducible refine gate_builtin (b := .append) (xs := #[.tmp 25, .tmp 27]) rfl ?_); at_builtin; refine Kd.R_append Kd.string (w0 := w) w.heap.size rfl (.tmp 25) (.tmp 27) 65 9 (.string ⟨#[]⟩) 16 rfl Try.underlying65 impl_term_set.infoS rfl (by decide) (by omega) (.slice (some ⟨rh1, 0, none⟩) 1 rn1) [s] u [.string u] (fun _ => True) (fun _ => False) rfl rfl ?aP (fun _ hk => hk.elim) ?aF ?aO ?aB ?aS ?aL ?_; (case aP => exact rfl); (case aB => exact HB2.out); (case aF => exact (fun _ _ => trivial)); (case aO => exact HR2.out); (case aS => exact HB2.out.size); (case aL => simp); intro v2_ w2_ ho hb hg hat; obtain ⟨rh2, rn2, rfl, rb2, rl2, rc2, rd2⟩ := impl_term_set.row2 ho; have HG2 := aM hb; have g40 := blk_cell (blk_below BT.out hb) 0; have g41 := blk_cell (blk_below BT.out hb) 1; clear ho hb hg hat))
 rw [rounds_succ]
 go_wp2
 have HB8 := aM (b1 HG2.out)
 have C0 := aM (show w2_.drew.cell? ⟨rh2, 0, none⟩ = some (.string s) from rc2)
 have C1 := aM (show w2_.drew.cell? ⟨rh2, 1, none⟩ = some (.string u) from rd2)
 refine start_ (n := 11) (S := fun w' => w'.cell? ⟨rh2, 0, none⟩ = some (.string s) ∧ w'.cell? ⟨rh2, 1, none⟩ = some (.string u)) (ds := []) #[false, false, false, false, false, false, false, false, false, false, false] (by kernel_rfl) rfl rfl ⟨C0.out, C1.out⟩ (fun hHeld => ?_); refine with_tabW impl_term_set.tab20 impl_term_set.bits20 (fun HT_ HW_ => ?_)
 generalize w2_.drew = W9 at HB8 C0 C1 hHeld ⊢
 refine pure_ (i := 0) (N := some 50) (v := ?_) (a' := ?_) #[true, false, false, false, false, false, false, false, false, false, false] rfl rfl (any_of HT_.out (by kernel_rfl)) (fun _ _ _ h => h) (Or.inl ⟨by rfl, ?_⟩) ?_ ?_
 rotate_left
 ·intro w'
  go_simp
  with_reducible rfl
 rotate_left
 ·simp only [Act.put, sA, sZ, sS, i64_w, i32_w]
  rfl
 refine pure_ (i := 1) (N := some 51) (v := ?_) (a' := ?_) #[true, true, false, false, false, false, false, false, false, false, false] rfl rfl (any_of HT_.out (by kernel_rfl)) (fun _ _ _ h => h) (Or.inl ⟨by rfl, ?_⟩) ?_ ?_
 rotate_left
 ·intro w'
  go_simp
  with_reducible rfl
 rotate_left
 ·simp only [Act.put, sA, sZ, sS, i64_w, i32_w]
  rfl
 refine take_ (i := 2) (N := some 52) (v := ?_) (a' := ?_) #[true, true, true, false, false, false, false, false, false, false, false] rfl rfl (take_ofW HT_.out HW_.out (by kernel_rfl)) (fun _ _ _ h => h) (Or.inl ⟨by rfl, ?_⟩) hHeld ?_ ?_
 rotate_left
 ·rintro w' ⟨s0, s1⟩
  go_simp
  with_reducible rfl
 rotate_left
 ·simp only [Act.put, sA, sZ, sS, i64_w, i32_w]
  rfl
 refine pure_ (i := 3) (N := some 53) (v := ?_) (a' := ?_) #[true, true, true, true, false, false, false, false, false, false, false] rfl rfl (any_of HT_.out (by kernel_rfl)) (fun _ _ _ h => h) (Or.inl ⟨by rfl, ?_⟩) ?_ ?_
 rotate_left
 ·intro w'
  go_simp
  with_reducible rfl
 rotate_left
 ·simp only [Act.put, sA, sZ, sS, i64_w, i32_w]
  rfl
 refine pure_ (i := 4) (N := some 54) (v := ?_) (a' := ?_) #[true, true, true, true, true, false, false, false, false, false, false] rfl rfl (any_of HT_.out (by kernel_rfl)) (fun _ _ _ h => h) (Or.inl ⟨by rfl, ?_⟩) ?_ ?_
 rotate_left
 ·intro w'
  go_simp
  with_reducible rfl
 rotate_left
 ·simp only [Act.put, sA, sZ, sS, i64_w, i32_w]
  rfl
 refine take_ (i := 5) (N := some 55) (v := ?_) (a' := ?_) #[true, true, true, true, true, true, false, false, false, false, false] rfl rfl (take_ofW HT_.out HW_.out (by kernel_rfl)) (fun _ _ _ h => h) (Or.inl ⟨by rfl, ?_⟩) hHeld ?_ ?_
 rotate_left
 ·rintro w' ⟨s0, s1⟩
  go_simp
  with_reducible rfl
 rotate_left
 ·simp only [Act.put, sA, sZ, sS, i64_w, i32_w]
  rfl
 refine one_ (i := 6) (N := some 56) #[true, true, true, true, true, true, true, false, false, false, false] rfl rfl (one_of HT_.out (by kernel_rfl)) (by decide) (fun K hK => ?_)
 refine goes_ Try.func47 (by kernel_rfl) rfl #[.string s, .string u] (by rfl) rfl rfl (by (try simp only [List.map_toArray, List.map_cons, List.map_nil]); first | done | rfl) ?_
 refine (impl_MakeEither.calls k s u r1 r2 _ H9.out).mono ?_
 rintro e w9 ⟨rfl, hd⟩
 refine ⟨_, rfl, ?_⟩
 have HB9 := aM (below_step HB8.out hd)
 refine hK.out _ _ ⟨pw_cell_below hd C0.out, pw_cell_below hd C1.out⟩ (fun hHeld => ?_)
 clear hK K
 refine norm_ (a' := ?_) ?_ ?_
 rotate_left
 ·show Act.put _ (some 56) _ = _
  simp only [Act.put, sA, sZ, sS, i64_w, i32_w]
  rfl
 refine pure_ (i := 7) (N := some 57) (v := ?_) (a' := ?_) #[true, true, true, true, true, true, true, true, false, false, false] rfl rfl (any_of HT_.out (by kernel_rfl)) (fun _ _ _ h => h) (Or.inl ⟨by rfl, ?_⟩) ?_ ?_
 rotate_left
 ·intro w'
  go_simp
  with_reducible rfl
 rotate_left
 ·simp only [Act.put, sA, sZ, sS, i64_w, i32_w]
  rfl
 refine pure_ (i := 8) (N := some 58) (v := ?_) (a' := ?_) #[true, true, true, true, true, true, true, true, true, false, false] rfl rfl (any_of HT_.out (by kernel_rfl)) (fun _ _ _ h => h) (Or.inl ⟨by rfl, ?_⟩) ?_ ?_
 rotate_left
 ·intro w'
  go_simp
  with_reducible rfl
 rotate_left
 ·simp only [Act.put, sA, sZ, sS, i64_w, i32_w]
  rfl
 refine pure_ (i := 9) (N := some 2) (v := ?_) (a' := ?_) #[true, true, true, true, true, true, true, true, true, true, false] rfl rfl (any_of HT_.out (by kernel_rfl)) (fun _ _ _ h => h) (Or.inl ⟨by rfl, ?_⟩) ?_ ?_
 rotate_left
 ·intro w'
  go_simp
  with_reducible rfl
 rotate_left
 ·simp only [Act.put, sA, sZ, sS, i64_w, i32_w]
  rfl
 refine pure_ (i := 10) (N := some 3) (v := ?_) (a' := ?_) #[true, true, true, true, true, true, true, true, true, true, true] rfl rfl (any_of HT_.out (by kernel_rfl)) (fun _ _ _ h => h) (Or.inl ⟨by rfl, ?_⟩) ?_ ?_
 rotate_left
 ·intro w'
  go_simp
  with_reducible rfl
 rotate_left
 ·simp only [Act.put, sA, sZ, sS, i64_w, i32_w]
  rfl
 refine done_ (done_of HT_.out (by kernel_rfl)) ?_
 go_wp2
 go_ret2
 exact ⟨rfl, HB9.out⟩
set_option maxHeartbeats 4000000 in
set_option maxRecDepth 100000 in
theorem impl_term_set.sum (k : Nat) (g h n : Nat) (c : Int) (cs : Array Value) (x y : Value) (w : World) (hb : w.heap[g]? = some (.cells #[.int .u8 c, .slice (some ⟨h, 0, none⟩) 2 n] 72 (0, 0))) (hr : w.heap[h]? = some (.cells cs 42 (0, 0))) (hx : cs[0]? = some x) (hy : cs[1]? = some y) (hc : c = 46) (s u : ByteArray) (ih : ∀ W, Below w.heap.size w W → Calls Try.prog 31 #[x] W fun e w' => e = .returned (.tuple #[.string s, .bool true]) ∧ Below W.heap.size W w') (ih2 : ∀ W, Below w.heap.size w W → Calls Try.prog 31 #[y] W fun e w' => e = .returned (.tuple #[.string u, .bool true]) ∧ Below W.heap.size W w') (r1 : ByteArray) (r2 : Bool) (h9 : impl_SumOf.f k s u = some (r1, r2)) :
  Calls Try.prog 31 #[.pointer (some ⟨g, 0, none⟩)] w fun e w' => e = .returned (.tuple #[.string r1, .bool r2]) ∧ Below w.heap.size w w' := by
 subst hc
 have e0 := blk_cell hb 0
 have e1 := blk_cell hb 1
 have e2 : w.cell? ⟨h, 0, none⟩ = some x := (blk_cell hr 0).trans hx
 have BT := aM hb
 have IH := aM ih
 have HR := aM hr; have HX := aM hx; have HY := aM hy
 clear ih hb hr hx hy
 have IH2 := aM ih2
 clear ih2
 have H9 := aM h9
 clear h9
 go_enter Try.func31, Try.ntmps31
 go_wp2
 refine wp_loop_rounds 3 ?_
 rw [rounds_succ]
 go_wp2_with (first | (go_at_call_of 31 x; refine (IH.out _ (Below.refl _ _)).mono ?_; rintro e w1 ⟨rfl, hd⟩; have HB1 := aM (below_step (Below.refl _ _) hd); have g10 := blk_cell (blk_below BT.out hd) 0; have g11 := blk_cell (blk_below BT.out hd) 1; clear hd) | ((with_reducible refine gate_builtin (b := .append) (xs := #[.tmp 25, .tmp 27]) rfl ?_); at_builtin; refine Kd.R_append Kd.string (w0 := w) w.heap.size rfl (.tmp 25) (.tmp 27) 65 9 (.string ⟨#[]⟩) 16 rfl Try.underlying65 impl_term_set.infoS rfl (by decide) (by omega) (.slice none 0 0) ([] : List ByteArray) s [.string s] (fun _ => True) (fun _ => False) rfl rfl ?aP (fun _ hk => hk.elim) ?aF ?aO ?aB ?aS ?aL ?_; (case aP => exact rfl); (case aB => exact HB1.out); (case aF => exact (fun _ _ => trivial)); (case aO => exact (Kd.R_nil _ _ _ _ _)); (case aS => exact HB1.out.size); (case aL => simp); intro v1_ w1_ ho hb hg hat; obtain ⟨rh1, rn1, rfl, rb1, rl1, rc1⟩ := impl_term_set.row1 ho; have HR1 := aM ho; have HG1 := aM hb; have g20 := blk_cell (blk_below BT.out hb) 0; have g21 := blk_cell (blk_below BT.out hb) 1; have y1 : w1_.cell? ⟨h, 1, none⟩ = some y := (blk_cell (blk_below HR.out hb) 1).trans HY.out; clear ho hb hg hat))
 rw [rounds_succ]
 go_wp2_with (first | (go_at_call_of 31 y; refine (IH2.out _ HG1.out).mono ?_; rintro e w2 ⟨rfl, hd⟩; have HB2 := aM (below_step HG1.out hd); have g30 := blk_cell (blk_below BT.out HB2.out) 0; have g31 := blk_cell (blk_below BT.out HB2.out) 1; have HR2 := aM (Kd.R_below HR1.out hd); clear hd) | ((with_reducible refine gate_builtin (b := .append) (xs := #[.tmp 25, .tmp 27]) rfl ?_); at_builtin; refine Kd.R_append Kd.string (w0 := w) w.heap.size rfl (.tmp 25) (.tmp 27) 65 9 (.string ⟨#[]⟩) 16 rfl Try.underlying65 impl_term_set.infoS rfl (by decide) (by omega) (.slice (some ⟨rh1, 0, none⟩) 1 rn1) [s] u [.string u] (fun _ => True) (fun _ => False) rfl rfl ?aP (fun _ hk => hk.elim) ?aF ?aO ?aB ?aS ?aL ?_; (case aP => exact rfl); (case aB => exact HB2.out); (case aF => exact (fun _ _ => trivial)); (case aO => exact HR2.out); (case aS => exact HB2.out.size); (case aL => simp); intro v2_ w2_ ho hb hg hat; obtain ⟨rh2, rn2, rfl, rb2, rl2, rc2, rd2⟩ := impl_term_set.row2 ho; have HG2 := aM hb; have g40 := blk_cell (blk_below BT.out hb) 0; have g41 := blk_cell (blk_below BT.out hb) 1; clear ho hb hg hat))
 rw [rounds_succ]
 go_wp2
 have HB8 := aM (b1 HG2.out)
 have C0 := aM (show w2_.drew.cell? ⟨rh2, 0, none⟩ = some (.string s) from rc2)
 have C1 := aM (show w2_.drew.cell? ⟨rh2, 1, none⟩ = some (.string u) from rd2)
 refine start_ (n := 11) (S := fun w' => w'.cell? ⟨rh2, 0, none⟩ = some (.string s) ∧ w'.cell? ⟨rh2, 1, none⟩ = some (.string u)) (ds := []) #[false, false, false, false, false, false, false, false, false, false, false] (by kernel_rfl) rfl rfl ⟨C0.out, C1.out⟩ (fun hHeld => ?_); refine with_tabW impl_term_set.tab22 impl_term_set.bits22 (fun HT_ HW_ => ?_)
 generalize w2_.drew = W9 at HB8 C0 C1 hHeld ⊢
 refine pure_ (i := 0) (N := some 61) (v := ?_) (a' := ?_) #[true, false, false, false, false, false, false, false, false, false, false] rfl rfl (any_of HT_.out (by kernel_rfl)) (fun _ _ _ h => h) (Or.inl ⟨by rfl, ?_⟩) ?_ ?_
 rotate_left
 ·intro w'
  go_simp
  with_reducible rfl
 rotate_left
 ·simp only [Act.put, sA, sZ, sS, i64_w, i32_w]
  rfl
 refine pure_ (i := 1) (N := some 62) (v := ?_) (a' := ?_) #[true, true, false, false, false, false, false, false, false, false, false] rfl rfl (any_of HT_.out (by kernel_rfl)) (fun _ _ _ h => h) (Or.inl ⟨by rfl, ?_⟩) ?_ ?_
 rotate_left
 ·intro w'
  go_simp
  with_reducible rfl
 rotate_left
 ·simp only [Act.put, sA, sZ, sS, i64_w, i32_w]
  rfl
 refine take_ (i := 2) (N := some 63) (v := ?_) (a' := ?_) #[true, true, true, false, false, false, false, false, false, false, false] rfl rfl (take_ofW HT_.out HW_.out (by kernel_rfl)) (fun _ _ _ h => h) (Or.inl ⟨by rfl, ?_⟩) hHeld ?_ ?_
 rotate_left
 ·rintro w' ⟨s0, s1⟩
  go_simp
  with_reducible rfl
 rotate_left
 ·simp only [Act.put, sA, sZ, sS, i64_w, i32_w]
  rfl
 refine pure_ (i := 3) (N := some 64) (v := ?_) (a' := ?_) #[true, true, true, true, false, false, false, false, false, false, false] rfl rfl (any_of HT_.out (by kernel_rfl)) (fun _ _ _ h => h) (Or.inl ⟨by rfl, ?_⟩) ?_ ?_
 rotate_left
 ·intro w'
  go_simp
  with_reducible rfl
 rotate_left
 ·simp only [Act.put, sA, sZ, sS, i64_w, i32_w]
  rfl
 refine pure_ (i := 4) (N := some 65) (v := ?_) (a' := ?_) #[true, true, true, true, true, false, false, false, false, false, false] rfl rfl (any_of HT_.out (by kernel_rfl)) (fun _ _ _ h => h) (Or.inl ⟨by rfl, ?_⟩) ?_ ?_
 rotate_left
 ·intro w'
  go_simp
  with_reducible rfl
 rotate_left
 ·simp only [Act.put, sA, sZ, sS, i64_w, i32_w]
  rfl
 refine take_ (i := 5) (N := some 66) (v := ?_) (a' := ?_) #[true, true, true, true, true, true, false, false, false, false, false] rfl rfl (take_ofW HT_.out HW_.out (by kernel_rfl)) (fun _ _ _ h => h) (Or.inl ⟨by rfl, ?_⟩) hHeld ?_ ?_
 rotate_left
 ·rintro w' ⟨s0, s1⟩
  go_simp
  with_reducible rfl
 rotate_left
 ·simp only [Act.put, sA, sZ, sS, i64_w, i32_w]
  rfl
 refine one_ (i := 6) (N := some 67) #[true, true, true, true, true, true, true, false, false, false, false] rfl rfl (one_of HT_.out (by kernel_rfl)) (by decide) (fun K hK => ?_)
 refine goes_ Try.func48 (by kernel_rfl) rfl #[.string s, .string u] (by rfl) rfl rfl (by (try simp only [List.map_toArray, List.map_cons, List.map_nil]); first | done | rfl) ?_
 refine (impl_SumOf.calls k s u r1 r2 _ H9.out).mono ?_
 rintro e w9 ⟨rfl, hd⟩
 refine ⟨_, rfl, ?_⟩
 have HB9 := aM (below_step HB8.out hd)
 refine hK.out _ _ ⟨pw_cell_below hd C0.out, pw_cell_below hd C1.out⟩ (fun hHeld => ?_)
 clear hK K
 refine norm_ (a' := ?_) ?_ ?_
 rotate_left
 ·show Act.put _ (some 67) _ = _
  simp only [Act.put, sA, sZ, sS, i64_w, i32_w]
  rfl
 refine pure_ (i := 7) (N := some 68) (v := ?_) (a' := ?_) #[true, true, true, true, true, true, true, true, false, false, false] rfl rfl (any_of HT_.out (by kernel_rfl)) (fun _ _ _ h => h) (Or.inl ⟨by rfl, ?_⟩) ?_ ?_
 rotate_left
 ·intro w'
  go_simp
  with_reducible rfl
 rotate_left
 ·simp only [Act.put, sA, sZ, sS, i64_w, i32_w]
  rfl
 refine pure_ (i := 8) (N := some 69) (v := ?_) (a' := ?_) #[true, true, true, true, true, true, true, true, true, false, false] rfl rfl (any_of HT_.out (by kernel_rfl)) (fun _ _ _ h => h) (Or.inl ⟨by rfl, ?_⟩) ?_ ?_
 rotate_left
 ·intro w'
  go_simp
  with_reducible rfl
 rotate_left
 ·simp only [Act.put, sA, sZ, sS, i64_w, i32_w]
  rfl
 refine pure_ (i := 9) (N := some 2) (v := ?_) (a' := ?_) #[true, true, true, true, true, true, true, true, true, true, false] rfl rfl (any_of HT_.out (by kernel_rfl)) (fun _ _ _ h => h) (Or.inl ⟨by rfl, ?_⟩) ?_ ?_
 rotate_left
 ·intro w'
  go_simp
  with_reducible rfl
 rotate_left
 ·simp only [Act.put, sA, sZ, sS, i64_w, i32_w]
  rfl
 refine pure_ (i := 10) (N := some 3) (v := ?_) (a' := ?_) #[true, true, true, true, true, true, true, true, true, true, true] rfl rfl (any_of HT_.out (by kernel_rfl)) (fun _ _ _ h => h) (Or.inl ⟨by rfl, ?_⟩) ?_ ?_
 rotate_left
 ·intro w'
  go_simp
  with_reducible rfl
 rotate_left
 ·simp only [Act.put, sA, sZ, sS, i64_w, i32_w]
  rfl
 refine done_ (done_of HT_.out (by kernel_rfl)) ?_
 go_wp2
 go_ret2
 exact ⟨rfl, HB9.out⟩
set_option maxHeartbeats 4000000 in
set_option maxRecDepth 100000 in
theorem impl_term_set.both (k : Nat) (g h n : Nat) (c : Int) (cs : Array Value) (x y : Value) (w : World) (hb : w.heap[g]? = some (.cells #[.int .u8 c, .slice (some ⟨h, 0, none⟩) 2 n] 72 (0, 0))) (hr : w.heap[h]? = some (.cells cs 42 (0, 0))) (hx : cs[0]? = some x) (hy : cs[1]? = some y) (hc : c = 38) (s u : ByteArray) (ih : ∀ W, Below w.heap.size w W → Calls Try.prog 31 #[x] W fun e w' => e = .returned (.tuple #[.string s, .bool true]) ∧ Below W.heap.size W w') (ih2 : ∀ W, Below w.heap.size w W → Calls Try.prog 31 #[y] W fun e w' => e = .returned (.tuple #[.string u, .bool true]) ∧ Below W.heap.size W w') (r1 : ByteArray) (r2 : Bool) (h9 : impl_MakeBoth.f k s u = some (r1, r2)) :
  Calls Try.prog 31 #[.pointer (some ⟨g, 0, none⟩)] w fun e w' => e = .returned (.tuple #[.string r1, .bool r2]) ∧ Below w.heap.size w w' := by
 subst hc
 have e0 := blk_cell hb 0
 have e1 := blk_cell hb 1
 have e2 : w.cell? ⟨h, 0, none⟩ = some x := (blk_cell hr 0).trans hx
 have BT := aM hb
 have IH := aM ih
 have HR := aM hr; have HX := aM hx; have HY := aM hy
 clear ih hb hr hx hy
 have IH2 := aM ih2
 clear ih2
 have H9 := aM h9
 clear h9
 go_enter Try.func31, Try.ntmps31
 go_wp2
 refine wp_loop_rounds 3 ?_
 rw [rounds_succ]
 go_wp2_with (first | (go_at_call_of 31 x; refine (IH.out _ (Below.refl _ _)).mono ?_; rintro e w1 ⟨rfl, hd⟩; have HB1 := aM (below_step (Below.refl _ _) hd); have g10 := blk_cell (blk_below BT.out hd) 0; have g11 := blk_cell (blk_below BT.out hd) 1; clear hd) | ((with_reducible refine gate_builtin (b := .append) (xs := #[.tmp 25, .tmp 27]) rfl ?_); at_builtin; refine Kd.R_append Kd.string (w0 := w) w.heap.size rfl (.tmp 25) (.tmp 27) 65 9 (.string ⟨#[]⟩) 16 rfl Try.underlying65 impl_term_set.infoS rfl (by decide) (by omega) (.slice none 0 0) ([] : List ByteArray) s [.string s] (fun _ => True) (fun _ => False) rfl rfl ?aP (fun _ hk => hk.elim) ?aF ?aO ?aB ?aS ?aL ?_; (case aP => exact rfl); (case aB => exact HB1.out); (case aF => exact (fun _ _ => trivial)); (case aO => exact (Kd.R_nil _ _ _ _ _)); (case aS => exact HB1.out.size); (case aL => simp); intro v1_ w1_ ho hb hg hat; obtain ⟨rh1, rn1, rfl, rb1, rl1, rc1⟩ := impl_term_set.row1 ho; have HR1 := aM ho; have HG1 := aM hb; have g20 := blk_cell (blk_below BT.out hb) 0; have g21 := blk_cell (blk_below BT.out hb) 1; have y1 : w1_.cell? ⟨h, 1, none⟩ = some y := (blk_cell (blk_below HR.out hb) 1).trans HY.out; clear ho hb hg hat))
 rw [rounds_succ]
 go_wp2_with (first | (go_at_call_of 31 y; refine (IH2.out _ HG1.out).mono ?_; rintro e w2 ⟨rfl, hd⟩; have HB2 := aM (below_step HG1.out hd); have g30 := blk_cell (blk_below BT.out HB2.out) 0; have g31 := blk_cell (blk_below BT.out HB2.out) 1; have HR2 := aM (Kd.R_below HR1.out hd); clear hd) | ((with_reducible refine gate_builtin (b := .append) (xs := #[.tmp 25, .tmp 27]) rfl ?_); at_builtin; refine Kd.R_append Kd.string (w0 := w) w.heap.size rfl (.tmp 25) (.tmp 27) 65 9 (.string ⟨#[]⟩) 16 rfl Try.underlying65 impl_term_set.infoS rfl (by decide) (by omega) (.slice (some ⟨rh1, 0, none⟩) 1 rn1) [s] u [.string u] (fun _ => True) (fun _ => False) rfl rfl ?aP (fun _ hk => hk.elim) ?aF ?aO ?aB ?aS ?aL ?_; (case aP => exact rfl); (case aB => exact HB2.out); (case aF => exact (fun _ _ => trivial)); (case aO => exact HR2.out); (case aS => exact HB2.out.size); (case aL => simp); intro v2_ w2_ ho hb hg hat; obtain ⟨rh2, rn2, rfl, rb2, rl2, rc2, rd2⟩ := impl_term_set.row2 ho; have HG2 := aM hb; have g40 := blk_cell (blk_below BT.out hb) 0; have g41 := blk_cell (blk_below BT.out hb) 1; clear ho hb hg hat))
 rw [rounds_succ]
 go_wp2
 have HB8 := aM (b1 HG2.out)
 have C0 := aM (show w2_.drew.cell? ⟨rh2, 0, none⟩ = some (.string s) from rc2)
 have C1 := aM (show w2_.drew.cell? ⟨rh2, 1, none⟩ = some (.string u) from rd2)
 refine start_ (n := 11) (S := fun w' => w'.cell? ⟨rh2, 0, none⟩ = some (.string s) ∧ w'.cell? ⟨rh2, 1, none⟩ = some (.string u)) (ds := []) #[false, false, false, false, false, false, false, false, false, false, false] (by kernel_rfl) rfl rfl ⟨C0.out, C1.out⟩ (fun hHeld => ?_); refine with_tabW impl_term_set.tab24 impl_term_set.bits24 (fun HT_ HW_ => ?_)
 generalize w2_.drew = W9 at HB8 C0 C1 hHeld ⊢
 refine pure_ (i := 0) (N := some 72) (v := ?_) (a' := ?_) #[true, false, false, false, false, false, false, false, false, false, false] rfl rfl (any_of HT_.out (by kernel_rfl)) (fun _ _ _ h => h) (Or.inl ⟨by rfl, ?_⟩) ?_ ?_
 rotate_left
 ·intro w'
  go_simp
  with_reducible rfl
 rotate_left
 ·simp only [Act.put, sA, sZ, sS, i64_w, i32_w]
  rfl
 refine pure_ (i := 1) (N := some 73) (v := ?_) (a' := ?_) #[true, true, false, false, false, false, false, false, false, false, false] rfl rfl (any_of HT_.out (by kernel_rfl)) (fun _ _ _ h => h) (Or.inl ⟨by rfl, ?_⟩) ?_ ?_
 rotate_left
 ·intro w'
  go_simp
  with_reducible rfl
 rotate_left
 ·simp only [Act.put, sA, sZ, sS, i64_w, i32_w]
  rfl
 refine take_ (i := 2) (N := some 74) (v := ?_) (a' := ?_) #[true, true, true, false, false, false, false, false, false, false, false] rfl rfl (take_ofW HT_.out HW_.out (by kernel_rfl)) (fun _ _ _ h => h) (Or.inl ⟨by rfl, ?_⟩) hHeld ?_ ?_
 rotate_left
 ·rintro w' ⟨s0, s1⟩
  go_simp
  with_reducible rfl
 rotate_left
 ·simp only [Act.put, sA, sZ, sS, i64_w, i32_w]
  rfl
 refine pure_ (i := 3) (N := some 75) (v := ?_) (a' := ?_) #[true, true, true, true, false, false, false, false, false, false, false] rfl rfl (any_of HT_.out (by kernel_rfl)) (fun _ _ _ h => h) (Or.inl ⟨by rfl, ?_⟩) ?_ ?_
 rotate_left
 ·intro w'
  go_simp
  with_reducible rfl
 rotate_left
 ·simp only [Act.put, sA, sZ, sS, i64_w, i32_w]
  rfl
 refine pure_ (i := 4) (N := some 76) (v := ?_) (a' := ?_) #[true, true, true, true, true, false, false, false, false, false, false] rfl rfl (any_of HT_.out (by kernel_rfl)) (fun _ _ _ h => h) (Or.inl ⟨by rfl, ?_⟩) ?_ ?_
 rotate_left
 ·intro w'
  go_simp
  with_reducible rfl
 rotate_left
 ·simp only [Act.put, sA, sZ, sS, i64_w, i32_w]
  rfl
 refine take_ (i := 5) (N := some 77) (v := ?_) (a' := ?_) #[true, true, true, true, true, true, false, false, false, false, false] rfl rfl (take_ofW HT_.out HW_.out (by kernel_rfl)) (fun _ _ _ h => h) (Or.inl ⟨by rfl, ?_⟩) hHeld ?_ ?_
 rotate_left
 ·rintro w' ⟨s0, s1⟩
  go_simp
  with_reducible rfl
 rotate_left
 ·simp only [Act.put, sA, sZ, sS, i64_w, i32_w]
  rfl
 refine one_ (i := 6) (N := some 78) #[true, true, true, true, true, true, true, false, false, false, false] rfl rfl (one_of HT_.out (by kernel_rfl)) (by decide) (fun K hK => ?_)
 refine goes_ Try.func49 (by kernel_rfl) rfl #[.string s, .string u] (by rfl) rfl rfl (by (try simp only [List.map_toArray, List.map_cons, List.map_nil]); first | done | rfl) ?_
 refine (impl_MakeBoth.calls k s u r1 r2 _ H9.out).mono ?_
 rintro e w9 ⟨rfl, hd⟩
 refine ⟨_, rfl, ?_⟩
 have HB9 := aM (below_step HB8.out hd)
 refine hK.out _ _ ⟨pw_cell_below hd C0.out, pw_cell_below hd C1.out⟩ (fun hHeld => ?_)
 clear hK K
 refine norm_ (a' := ?_) ?_ ?_
 rotate_left
 ·show Act.put _ (some 78) _ = _
  simp only [Act.put, sA, sZ, sS, i64_w, i32_w]
  rfl
 refine pure_ (i := 7) (N := some 79) (v := ?_) (a' := ?_) #[true, true, true, true, true, true, true, true, false, false, false] rfl rfl (any_of HT_.out (by kernel_rfl)) (fun _ _ _ h => h) (Or.inl ⟨by rfl, ?_⟩) ?_ ?_
 rotate_left
 ·intro w'
  go_simp
  with_reducible rfl
 rotate_left
 ·simp only [Act.put, sA, sZ, sS, i64_w, i32_w]
  rfl
 refine pure_ (i := 8) (N := some 80) (v := ?_) (a' := ?_) #[true, true, true, true, true, true, true, true, true, false, false] rfl rfl (any_of HT_.out (by kernel_rfl)) (fun _ _ _ h => h) (Or.inl ⟨by rfl, ?_⟩) ?_ ?_
 rotate_left
 ·intro w'
  go_simp
  with_reducible rfl
 rotate_left
 ·simp only [Act.put, sA, sZ, sS, i64_w, i32_w]
  rfl
 refine pure_ (i := 9) (N := some 2) (v := ?_) (a' := ?_) #[true, true, true, true, true, true, true, true, true, true, false] rfl rfl (any_of HT_.out (by kernel_rfl)) (fun _ _ _ h => h) (Or.inl ⟨by rfl, ?_⟩) ?_ ?_
 rotate_left
 ·intro w'
  go_simp
  with_reducible rfl
 rotate_left
 ·simp only [Act.put, sA, sZ, sS, i64_w, i32_w]
  rfl
 refine pure_ (i := 10) (N := some 3) (v := ?_) (a' := ?_) #[true, true, true, true, true, true, true, true, true, true, true] rfl rfl (any_of HT_.out (by kernel_rfl)) (fun _ _ _ h => h) (Or.inl ⟨by rfl, ?_⟩) ?_ ?_
 rotate_left
 ·intro w'
  go_simp
  with_reducible rfl
 rotate_left
 ·simp only [Act.put, sA, sZ, sS, i64_w, i32_w]
  rfl
 refine done_ (done_of HT_.out (by kernel_rfl)) ?_
 go_wp2
 go_ret2
 exact ⟨rfl, HB9.out⟩
theorem impl_term_set.calls (k : Nat) (t : Tm) : ∀ (v : Value) (w : World) (lo hi : Nat) (r1 : ByteArray) (r2 : Bool), t.At w lo hi v → impl_term_set.f k t = some (r1, r2) → Calls Try.prog 31 #[v] w fun e w' => e = .returned (.tuple #[.string r1, .bool r2]) ∧ Below w.heap.size w w' := by
 induction t with
 | leaf c =>
  rintro v w lo hi r1 r2 ⟨g, h1, h2, rfl, hb⟩ h
  unfold impl_term_set.f at h
  split at h
  ·rename_i hc
   obtain ⟨rfl, rfl⟩ := Prod.mk.inj (Option.some.inj h)
   subst hc; exact impl_term_set.leaf_zero k g w hb
  split at h
  ·rename_i hc
   obtain ⟨rfl, rfl⟩ := Prod.mk.inj (Option.some.inj h)
   subst hc; exact impl_term_set.leaf_one k g w hb
  split at h
  ·rename_i hc
   obtain ⟨rfl, rfl⟩ := Prod.mk.inj (Option.some.inj h)
   subst hc; exact impl_term_set.leaf_a k g w hb
  ·cases h
 | un c a ih =>
  rintro v w lo hi r1 r2 ⟨g, h, n, cs, x, h1, h2, h3, h4, rfl, hb, hr, hx, hat⟩ hf
  unfold impl_term_set.f at hf
  obtain ⟨⟨s, o⟩, ha, hf⟩ := Option.bind_eq_some_iff.mp hf
  have i1 : ∀ W, Below w.heap.size w W → Calls Try.prog 31 #[x] W fun e w' => e = .returned (.tuple #[.string s, .bool o]) ∧ Below W.heap.size W w' := fun W hW => ih x W lo hi s o (hat.below hW) ha
  cases o with
  | false =>
   simp only [Bool.false_eq_true, if_false] at hf
   obtain ⟨rfl, rfl⟩ := Prod.mk.inj (Option.some.inj hf)
   exact impl_term_set.un_no k g h n c cs x w hb hr hx s i1
  | true =>
   simp only [if_true] at hf
   split at hf
   ·rename_i hc
    exact impl_term_set.star k g h n c cs x w hb hr hx hc s i1 r1 r2 hf
   ·split at hf
    ·rename_i hc
     exact impl_term_set.times k g h n c cs x w hb hr hx hc s i1 r1 r2 hf
    ·cases hf
 | bin c a b iha ihb =>
  rintro v w lo hi r1 r2 ⟨g, h, n, cs, x, y, h1, h2, h3, h4, rfl, hb, hr, hx, hy, hat, hbt⟩ hf
  unfold impl_term_set.f at hf
  obtain ⟨⟨s, o⟩, ha, hf⟩ := Option.bind_eq_some_iff.mp hf
  have i1 : ∀ W, Below w.heap.size w W → Calls Try.prog 31 #[x] W fun e w' => e = .returned (.tuple #[.string s, .bool o]) ∧ Below W.heap.size W w' := fun W hW => iha x W lo hi s o (hat.below hW) ha
  cases o with
  | false =>
   simp only [Bool.false_eq_true, if_false] at hf
   obtain ⟨rfl, rfl⟩ := Prod.mk.inj (Option.some.inj hf)
   exact impl_term_set.bin_no k g h n c cs x y w hb hr hx hy s i1
  | true =>
   simp only [if_true] at hf
   obtain ⟨⟨u, p⟩, hu, hf⟩ := Option.bind_eq_some_iff.mp hf
   have i2 : ∀ W, Below w.heap.size w W → Calls Try.prog 31 #[y] W fun e w' => e = .returned (.tuple #[.string u, .bool p]) ∧ Below W.heap.size W w' := fun W hW => ihb y W lo hi u p (hbt.below hW) hu
   cases p with
   | false =>
    simp only [Bool.false_eq_true, if_false] at hf
    obtain ⟨rfl, rfl⟩ := Prod.mk.inj (Option.some.inj hf)
    exact impl_term_set.bin_no2 k g h n c cs x y w hb hr hx hy s u i1 i2
   | true =>
    simp only [if_true] at hf
    split at hf
    ·rename_i hc
     exact impl_term_set.either k g h n c cs x y w hb hr hx hy hc s u i1 i2 r1 r2 hf
    ·split at hf
     ·rename_i hc
      exact impl_term_set.sum k g h n c cs x y w hb hr hx hy hc s u i1 i2 r1 r2 hf
     ·split at hf
      ·rename_i hc
       exact impl_term_set.both k g h n c cs x y w hb hr hx hy hc s u i1 i2 r1 r2 hf
      ·cases hf
def impl_TermSet.f (k : Nat) (a0 : ByteArray) : Option (ByteArray × Bool) := match Tm.of a0 with | some t => impl_term_set.f k t | none => some (⟨#[]⟩, false)
theorem impl_TermSet.mono : ∀ a0 k, LeO (impl_TermSet.f k a0) (impl_TermSet.f (k + 1) a0) := by
 intro a0 k
 unfold impl_TermSet.f
 cases Tm.of a0 with
 | none => exact LeO.refl _
 | some t => exact impl_term_set.mono t k
set_option maxHeartbeats 2000000 in
set_option maxRecDepth 100000 in
theorem impl_TermSet.calls (k : Nat) (a0 : ByteArray) (r1 : ByteArray) (r2 : Bool) (w : World) (h : impl_TermSet.f k a0 = some (r1, r2)) :
  Calls Try.prog 11 #[.string a0] w fun e w' => e = .returned (.tuple #[.string r1, .bool r2]) ∧ Below w.heap.size w w' := by
 have C := impl_termOf.calls a0 w
 unfold impl_TermSet.f at h
 cases hp : Tm.of a0 with
 | none =>
  rw [hp] at C h
  simp only [Option.some.injEq, Prod.mk.injEq] at h
  obtain ⟨rfl, rfl⟩ := h
  have C0 : Calls Try.prog 25 #[.string a0] w fun e w' => e = .returned (.pointer none) ∧ Below w.heap.size w w' := C
  clear C hp
  go_enter Try.func11, Try.ntmps11
  go_wp2_with (go_at_call 25; refine C0.mono ?_; rintro e w1 ⟨rfl, hb⟩; have HB := aM hb; clear hb)
  go_ret2
  exact ⟨rfl, HB.out⟩
 | some t =>
  rw [hp] at C h
  simp only at h
  have C0 : Calls Try.prog 25 #[.string a0] w fun e w' => ∃ g, e = .returned (.pointer (some ⟨g, 0, none⟩)) ∧ t.At w' w.heap.size w'.heap.size (.pointer (some ⟨g, 0, none⟩)) ∧ Below w.heap.size w w' := C
  have H := aM h
  clear C hp h
  go_enter Try.func11, Try.ntmps11
  go_wp2_with (first | (go_at_call 25; refine C0.mono ?_; rintro e w1 ⟨g, rfl, hat, hb⟩; have HB := aM hb; have HAT := aM hat; clear hb hat) | (go_at_call 31; refine (impl_term_set.calls k t _ w1 _ _ r1 r2 HAT.out H.out).mono ?_; rintro e w2 ⟨rfl, hb⟩; have HB2 := aM (below_step HB.out hb); clear hb))
  go_ret2
  exact ⟨rfl, HB2.out⟩

/-- The reference's tree of a term (the terms are those of impl_parse.calls). -/
def Tm.toS : Tm → S49
 | .leaf c => ⟨c, []⟩
 | .un c a => ⟨c, [a.toS]⟩
 | .bin c a b => ⟨c, [a.toS, b.toS]⟩
/-- A row of one or two trees, out of its cells. -/
theorem spec_l7Read.row1 {w : World} {h : Nat} {x : S49} {A : Option Addr} {m : Nat} {cs : Array Value} (hb : w.heap[h]? = some (.cells cs 49 (0, 0))) (e0 : cs[0]? = some (.int .u8 x.f0)) (e1 : cs[1]? = some (.slice A x.f1.length m)) (l : x.f1.length ≤ m) (hc : k49.C w A x.f1.length x.f1) : k49.C w (some ⟨h, 0, none⟩) 1 [x] := by
 refine ⟨rfl, by decide, fun _ => ⟨_, rfl, fun j p hj => ?_⟩⟩
 have hk := k49_mk w x l hc
 cases j with
 | zero =>
  obtain rfl : x = p := by simpa using hj
  refine ⟨_, rfl, hk, fun i u hi => ?_⟩
  rw [show (⟨h, 0, none⟩ : Addr).add (0 * k49.sz + i) = ⟨h, i, none⟩ by rw [Nat.zero_mul, Nat.zero_add, add_plain], blk_cell hb]
  match i, hi with
  | 0, hi => rw [e0]; simpa using hi
  | 1, hi => rw [e1]; simpa using hi
  | i + 2, hi => simp at hi
 | succ j => simp at hj
theorem spec_l7Read.row2 {w : World} {h : Nat} {x y : S49} {A B : Option Addr} {m n : Nat} {cs : Array Value} (hb : w.heap[h]? = some (.cells cs 49 (0, 0))) (e0 : cs[0]? = some (.int .u8 x.f0)) (e1 : cs[1]? = some (.slice A x.f1.length m)) (e2 : cs[2]? = some (.int .u8 y.f0)) (e3 : cs[3]? = some (.slice B y.f1.length n)) (l : x.f1.length ≤ m) (l2 : y.f1.length ≤ n) (hc : k49.C w A x.f1.length x.f1) (hc2 : k49.C w B y.f1.length y.f1) : k49.C w (some ⟨h, 0, none⟩) 2 [x, y] := by
 have hsz : k49.sz = 2 := rfl
 refine ⟨rfl, by decide, fun _ => ⟨_, rfl, fun j p hj => ?_⟩⟩
 match j, hj with
 | 0, hj =>
  obtain rfl : x = p := by simpa using hj
  refine ⟨_, rfl, k49_mk w x l hc, fun i u hi => ?_⟩
  rw [show (⟨h, 0, none⟩ : Addr).add (0 * k49.sz + i) = ⟨h, i, none⟩ by rw [Nat.zero_mul, Nat.zero_add, add_plain], blk_cell hb]
  match i, hi with
  | 0, hi => rw [e0]; simpa using hi
  | 1, hi => rw [e1]; simpa using hi
  | i + 2, hi => simp at hi
 | 1, hj =>
  obtain rfl : y = p := by simpa using hj
  refine ⟨_, rfl, k49_mk w y l2 hc2, fun i u hi => ?_⟩
  rw [show (⟨h, 0, none⟩ : Addr).add (1 * k49.sz + i) = ⟨h, 2 + i, none⟩ by rw [Nat.one_mul, hsz, add_plain], blk_cell hb]
  match i, hi with
  | 0, hi => rw [e2]; simpa using hi
  | 1, hi => rw [e3]; simpa using hi
  | i + 2, hi => simp at hi
 | j + 2, hj => simp at hj
/-- What a call hands back: a tree's cells, and the place behind it; P says what is known of the cells. -/
def spec_l7Read.Hands (P : Nat → Nat → World → Int → Option Addr → Nat → Nat → Prop) (z : Int) (w : World) (e : Ending) (w' : World) : Prop := ∃ f A n m, e = .returned (.tuple #[.agg #[.int .u8 f, .slice A n m], .int .i64 z]) ∧ P w.heap.size w'.heap.size w' f A n m ∧ Below w.heap.size w w'
theorem spec_l7Read.new2 (w : World) (a b : Obj) (n : Nat) (hn : n = w.heap.size + 1) : ((w.alloc a).alloc b).heap[n]? = some b := by
 have := blk_new (w.alloc a) b
 rw [World.size_alloc, ← hn] at this
 exact this
theorem spec_l7Read.start (w : World) : (((w.alloc (.cells #[.int .u8 0, .slice none 0 0] 49)).alloc (.cells #[] 49)).alloc (.cells #[.int .u8 48, .slice (some ⟨w.heap.size + 1, 0, none⟩) 0 0] 49)).heap[w.heap.size]? = some (.cells #[.int .u8 0, .slice none 0 0] 49) ∧ (((w.alloc (.cells #[.int .u8 0, .slice none 0 0] 49)).alloc (.cells #[] 49)).alloc (.cells #[.int .u8 48, .slice (some ⟨w.heap.size + 1, 0, none⟩) 0 0] 49)).heap[w.heap.size + 1 + 1]? = some (.cells #[.int .u8 48, .slice (some ⟨w.heap.size + 1, 0, none⟩) 0 0] 49) ∧ Below w.heap.size w (((w.alloc (.cells #[.int .u8 0, .slice none 0 0] 49)).alloc (.cells #[] 49)).alloc (.cells #[.int .u8 48, .slice (some ⟨w.heap.size + 1, 0, none⟩) 0 0] 49)) := by
 refine ⟨kA (kA (blk_new w _) _) _, ?_, bA (bA (bA (Below.refl _ _) _) _) _⟩
 have := blk_new ((w.alloc (.cells #[.int .u8 0, .slice none 0 0] 49)).alloc (.cells #[] 49)) (.cells #[.int .u8 48, .slice (some ⟨w.heap.size + 1, 0, none⟩) 0 0] 49)
 rw [show ((w.alloc (.cells #[.int .u8 0, .slice none 0 0] 49)).alloc (.cells #[] 49)).heap.size = w.heap.size + 1 + 1 by rw [World.size_alloc, World.size_alloc]] at this
 exact this
set_option maxHeartbeats 4000000 in
set_option maxRecDepth 100000 in
theorem spec_l7Read.past (s : ByteArray) (p : Nat) (w : World) (h : ¬ p < s.size) :
  Calls Try.prog 43 #[.string s, .int .i64 p] w (spec_l7Read.Hands (fun _ _ _ _ _ _ _ => True) 0 w) := by
 have hl : (s.size : Int) ≤ (p : Int) := by omega
 have hl2 : decide ((s.size : Int) ≤ (p : Int)) = true := decide_eq_true hl
 go_enter Try.func43, Try.ntmps43
 go_wp2
 refine bodyPost_ret (results_ct rfl _ _ w.heap.size 49 (#[.int .u8 48, .slice (some ⟨w.heap.size + 1, 0, none⟩) 0 0]) (0, 0) _ rfl ?hg Try.underlying49 rfl (by kernel_rfl)) rfl ?_; (case hg => repeat (first | with_reducible exact blk_new _ _ | with_reducible refine kA ?_ _ | with_reducible refine kD ?_ | refine blk_set ?_ 1 _ | refine blk_set ?_ 0 _ | exact BR.out))
 exact ⟨_, _, _, _, rfl, trivial, by repeat (first | with_reducible exact Below.refl _ _ | with_reducible apply bA)⟩
set_option maxHeartbeats 4000000 in
set_option maxRecDepth 100000 in
theorem spec_l7Read.leaf (s : ByteArray) (p : Nat) (w : World) (h : p < s.size) (hs : s.size ≤ 1000) (c : Int) (hc : bt s p = c) (h1 : c = 48 ∨ c = 49 ∨ c = 97) :
  Calls Try.prog 43 #[.string s, .int .i64 p] w (spec_l7Read.Hands (fun _ _ _ f _ n _ => f = c ∧ n = 0) ((p : Int) + 1) w) := by
 have hl : ¬ (s.size : Int) ≤ (p : Int) := by omega
 have hl2 : decide ((s.size : Int) ≤ (p : Int)) = false := decide_eq_false hl
 have hx : ∀ h : p < s.size, ((s[p]'h).toNat : Int) = c := fun h' => by rw [← hc]; exact bt_at s (p : Int) h'
 have hw : wrap64 ((p : Int) + 1) = ((p + 1 : Nat) : Int) := by unfold wrap64; omega
 have hrg := bt_range s (p : Int)
 clear hc hrg
 rcases h1 with rfl | rfl | rfl
 ·go_enter Try.func43, Try.ntmps43
  go_wp2
  refine bodyPost_ret (results_ct rfl _ _ w.heap.size 49 (#[.int .u8 48, .slice (some ⟨w.heap.size + 1 + 1 + 1, 0, none⟩) 0 0]) (0, 0) _ rfl ?hg Try.underlying49 rfl (by kernel_rfl)) rfl ?_; (case hg => repeat (first | with_reducible exact blk_new _ _ | with_reducible refine kA ?_ _ | with_reducible refine kD ?_ | refine blk_set ?_ 1 _ | refine blk_set ?_ 0 _ | exact BR.out))
  exact ⟨_, _, _, _, rfl, ⟨rfl, rfl⟩, by repeat (first | with_reducible exact Below.refl _ _ | with_reducible apply bA)⟩
 ·go_enter Try.func43, Try.ntmps43
  go_wp2
  refine bodyPost_ret (results_ct rfl _ _ w.heap.size 49 (#[.int .u8 49, .slice (some ⟨w.heap.size + 1 + 1 + 1, 0, none⟩) 0 0]) (0, 0) _ rfl ?hg Try.underlying49 rfl (by kernel_rfl)) rfl ?_; (case hg => repeat (first | with_reducible exact blk_new _ _ | with_reducible refine kA ?_ _ | with_reducible refine kD ?_ | refine blk_set ?_ 1 _ | refine blk_set ?_ 0 _ | exact BR.out))
  exact ⟨_, _, _, _, rfl, ⟨rfl, rfl⟩, by repeat (first | with_reducible exact Below.refl _ _ | with_reducible apply bA)⟩
 ·go_enter Try.func43, Try.ntmps43
  go_wp2
  refine bodyPost_ret (results_ct rfl _ _ w.heap.size 49 (#[.int .u8 97, .slice (some ⟨w.heap.size + 1 + 1 + 1, 0, none⟩) 0 0]) (0, 0) _ rfl ?hg Try.underlying49 rfl (by kernel_rfl)) rfl ?_; (case hg => repeat (first | with_reducible exact blk_new _ _ | with_reducible refine kA ?_ _ | with_reducible refine kD ?_ | refine blk_set ?_ 1 _ | refine blk_set ?_ 0 _ | exact BR.out))
  exact ⟨_, _, _, _, rfl, ⟨rfl, rfl⟩, by repeat (first | with_reducible exact Below.refl _ _ | with_reducible apply bA)⟩
set_option maxHeartbeats 4000000 in
set_option maxRecDepth 100000 in
theorem spec_l7Read.bad (s : ByteArray) (p : Nat) (w : World) (h : p < s.size) (hs : s.size ≤ 1000) (c : Int) (hc : bt s p = c) (h1 : ¬ (c = 48 ∨ c = 49 ∨ c = 97)) (h2 : ¬ (c = 42 ∨ (50 ≤ c ∧ c ≤ 53))) (h3 : ¬ c = 40) :
  Calls Try.prog 43 #[.string s, .int .i64 p] w (spec_l7Read.Hands (fun _ _ _ _ _ _ _ => True) 0 w) := by
 have hl : ¬ (s.size : Int) ≤ (p : Int) := by omega
 have hl2 : decide ((s.size : Int) ≤ (p : Int)) = false := decide_eq_false hl
 have hx : ∀ h : p < s.size, ((s[p]'h).toNat : Int) = c := fun h' => by rw [← hc]; exact bt_at s (p : Int) h'
 have hw : wrap64 ((p : Int) + 1) = ((p + 1 : Nat) : Int) := by unfold wrap64; omega
 have hrg := bt_range s (p : Int)
 have n48 : (c == 48) = false := beq_eq_false_iff_ne.mpr (by omega)
 have n49 : (c == 49) = false := beq_eq_false_iff_ne.mpr (by omega)
 have n97 : (c == 97) = false := beq_eq_false_iff_ne.mpr (by omega)
 have n42 : (c == 42) = false := beq_eq_false_iff_ne.mpr (by omega)
 have n40 : (c == 40) = false := beq_eq_false_iff_ne.mpr (by omega)
 have m40 : (c != 40) = true := bne_iff_ne.mpr (by omega)
 by_cases g50 : 50 ≤ c
 ·have g53 : ¬ c ≤ 53 := by omega
  have l50 : decide (50 ≤ c) = true := decide_eq_true g50
  have l53 : decide (c ≤ 53) = false := decide_eq_false g53
  clear hc h1 h2 h3 hrg
  go_enter Try.func43, Try.ntmps43
  go_wp2
  refine bodyPost_ret (results_ct rfl _ _ w.heap.size 49 (#[.int .u8 48, .slice (some ⟨w.heap.size + 1, 0, none⟩) 0 0]) (0, 0) _ rfl ?hg Try.underlying49 rfl (by kernel_rfl)) rfl ?_; (case hg => repeat (first | with_reducible exact blk_new _ _ | with_reducible refine kA ?_ _ | with_reducible refine kD ?_ | refine blk_set ?_ 1 _ | refine blk_set ?_ 0 _ | exact BR.out))
  exact ⟨_, _, _, _, rfl, trivial, by repeat (first | with_reducible exact Below.refl _ _ | with_reducible apply bA)⟩
 ·have l50 : decide (50 ≤ c) = false := decide_eq_false g50
  clear hc h1 h2 h3 hrg
  go_enter Try.func43, Try.ntmps43
  go_wp2
  refine bodyPost_ret (results_ct rfl _ _ w.heap.size 49 (#[.int .u8 48, .slice (some ⟨w.heap.size + 1, 0, none⟩) 0 0]) (0, 0) _ rfl ?hg Try.underlying49 rfl (by kernel_rfl)) rfl ?_; (case hg => repeat (first | with_reducible exact blk_new _ _ | with_reducible refine kA ?_ _ | with_reducible refine kD ?_ | refine blk_set ?_ 1 _ | refine blk_set ?_ 0 _ | exact BR.out))
  exact ⟨_, _, _, _, rfl, trivial, by repeat (first | with_reducible exact Below.refl _ _ | with_reducible apply bA)⟩
set_option maxHeartbeats 4000000 in
set_option maxRecDepth 100000 in
theorem spec_l7Read.un (s : ByteArray) (p : Nat) (w : World) (h : p < s.size) (hs : s.size ≤ 1000) (c : Int) (hc : bt s p = c) (h1 : c = 42 ∨ (50 ≤ c ∧ c ≤ 53)) (P : Nat → Nat → World → Int → Option Addr → Nat → Nat → Prop) (hP : ∀ lo hi W W' f A n m, P lo hi W f A n m → (∀ i, lo ≤ i → i < hi → W'.heap[i]? = W.heap[i]?) → P lo hi W' f A n m) (z : Int) (ih : ∀ W, Calls Try.prog 43 #[.string s, .int .i64 ((p : Int) + 1)] W (spec_l7Read.Hands P z W)) :
  Calls Try.prog 43 #[.string s, .int .i64 p] w (spec_l7Read.Hands (fun lo hi W f A n m => ∃ g f1 A1 n1 m1 lo1 hi1, f = c ∧ A = some ⟨g, 0, none⟩ ∧ n = 1 ∧ 1 ≤ m ∧ lo ≤ g ∧ g < hi ∧ lo ≤ lo1 ∧ hi1 ≤ hi ∧ W.heap[g]? = some (.cells #[.int .u8 f1, .slice A1 n1 m1] 49 (0, 0)) ∧ P lo1 hi1 W f1 A1 n1 m1) z w) := by
 have hl : ¬ (s.size : Int) ≤ (p : Int) := by omega
 have hl2 : decide ((s.size : Int) ≤ (p : Int)) = false := decide_eq_false hl
 have hx : ∀ h : p < s.size, ((s[p]'h).toNat : Int) = c := fun h' => by rw [← hc]; exact bt_at s (p : Int) h'
 have hw : wrap64 ((p : Int) + 1) = ((p + 1 : Nat) : Int) := by unfold wrap64; omega
 have hrg := bt_range s (p : Int)
 have n48 : (c == 48) = false := beq_eq_false_iff_ne.mpr (by omega)
 have n49 : (c == 49) = false := beq_eq_false_iff_ne.mpr (by omega)
 have n97 : (c == 97) = false := beq_eq_false_iff_ne.mpr (by omega)
 have IH := aM ih
 clear ih
 by_cases g42 : c = 42
 ·have n42 : (c == 42) = true := beq_iff_eq.mpr g42
  clear hc h1 hrg g42
  go_enter Try.func43, Try.ntmps43
  go_wp2_with (go_at_call 43; refine (IH.out _).mono ?_; rintro e w1 ⟨f1, A1, n1, m1, rfl, hp1, hb⟩; obtain ⟨s1, s2, s3⟩ := spec_l7Read.start w; have BR := aM (blk_below s1 hb); have BN := aM (blk_below s2 hb); have HB1 := aM (below_step s3 hb); have HP1 := aM hp1; have l10 := blk_lt BR.out; have l11 : w.heap.size < w1.heap.size + 1 := (by omega); have l12 : w.heap.size < w1.heap.size + 1 + 1 := (by omega); have l20 := blk_lt BN.out; have l21 : w.heap.size + 1 + 1 < w1.heap.size + 1 := (by omega); have e10 := blk_cell BR.out 0; have e11 := blk_cell BR.out 1; have f10 := blk_frozen BR.out 0; have f11 := blk_frozen BR.out 1; have e20 := blk_cell BN.out 0; have e21 := blk_cell BN.out 1; have f20 := blk_frozen BN.out 0; have f21 := blk_frozen BN.out 1; clear s1 s2 s3 hb hp1)
  refine bodyPost_ret (results_ct rfl _ _ w.heap.size 49 (#[.int .u8 c, .slice (some ⟨w1.heap.size + 1, 0, none⟩) 1 1]) (0, 0) _ rfl ?hg Try.underlying49 rfl (by kernel_rfl)) rfl ?_; (case hg => (repeat (first | with_reducible refine kA ?_ _ | with_reducible refine kD ?_)); with_reducible refine blk_put (cs := #[.int .u8 c, .slice none 0 0]) ?_ 1 _ rfl; with_reducible refine blk_put (cs := #[.int .u8 0, .slice none 0 0]) ?_ 0 _ rfl; exact BR.out)
  have lo0 : (((w.alloc (.cells #[.int .u8 0, .slice none 0 0] 49)).alloc (.cells #[] 49)).alloc (.cells #[.int .u8 48, .slice (some ⟨w.heap.size + 1, 0, none⟩) 0 0] 49)).heap.size = w.heap.size + 1 + 1 + 1 := by rw [World.size_alloc, World.size_alloc, World.size_alloc]
  have far : ∀ i, w.heap.size + 1 ≤ i → i < w1.heap.size → ((((w1.setCell ⟨w.heap.size, 0, none⟩ (.int .u8 c)).setCell ⟨w.heap.size, 1, none⟩ (.slice (some ⟨w1.heap.size + 1, 0, none⟩) 1 1)).alloc (.cells #[.int .u8 f1, .slice A1 n1 m1] 49)).alloc (.cells #[.int .u8 f1, .slice A1 n1 m1] 49)).heap[i]? = w1.heap[i]? := fun i h1 h2 => by rw [Below.heap_alloc _ _ _ (by rw [World.size_alloc]; simp [World.setCell]; omega), Below.heap_alloc _ _ _ (by simp [World.setCell]; omega), Below.heap_setCell _ _ _ _ (by show i ≠ w.heap.size; omega), Below.heap_setCell _ _ _ _ (by show i ≠ w.heap.size; omega)]
  exact ⟨_, _, _, _, rfl, ⟨w1.heap.size + 1, f1, A1, n1, m1, _, w1.heap.size, rfl, rfl, rfl, Nat.le_refl _, by omega, by rw [World.size_alloc, World.size_alloc]; simp [World.setCell], (by rw [World.size_alloc, World.size_alloc, World.size_alloc]; omega), by rw [World.size_alloc, World.size_alloc]; simp [World.setCell]; omega, spec_l7Read.new2 _ _ _ _ (by simp [World.setCell]), hP _ _ _ _ _ _ _ _ HP1.out fun i h1 h2 => far i (by have := lo0; omega) h2⟩, bA (bA ((HB1.out.setCell (p := ⟨w.heap.size, 0, none⟩) (Nat.le_refl _) _).setCell (p := ⟨w.heap.size, 1, none⟩) (Nat.le_refl _) _) _) _⟩
 ·have n42 : (c == 42) = false := beq_eq_false_iff_ne.mpr g42
  have l50 : decide (50 ≤ c) = true := decide_eq_true (by omega)
  have l53 : decide (c ≤ 53) = true := decide_eq_true (by omega)
  have g50 : 50 ≤ c := by omega
  have g53 : c ≤ 53 := by omega
  clear hc h1 hrg g42
  go_enter Try.func43, Try.ntmps43
  go_wp2_with (go_at_call 43; refine (IH.out _).mono ?_; rintro e w1 ⟨f1, A1, n1, m1, rfl, hp1, hb⟩; obtain ⟨s1, s2, s3⟩ := spec_l7Read.start w; have BR := aM (blk_below s1 hb); have BN := aM (blk_below s2 hb); have HB1 := aM (below_step s3 hb); have HP1 := aM hp1; have l10 := blk_lt BR.out; have l11 : w.heap.size < w1.heap.size + 1 := (by omega); have l12 : w.heap.size < w1.heap.size + 1 + 1 := (by omega); have l20 := blk_lt BN.out; have l21 : w.heap.size + 1 + 1 < w1.heap.size + 1 := (by omega); have e10 := blk_cell BR.out 0; have e11 := blk_cell BR.out 1; have f10 := blk_frozen BR.out 0; have f11 := blk_frozen BR.out 1; have e20 := blk_cell BN.out 0; have e21 := blk_cell BN.out 1; have f20 := blk_frozen BN.out 0; have f21 := blk_frozen BN.out 1; clear s1 s2 s3 hb hp1)
  refine bodyPost_ret (results_ct rfl _ _ w.heap.size 49 (#[.int .u8 c, .slice (some ⟨w1.heap.size + 1, 0, none⟩) 1 1]) (0, 0) _ rfl ?hg Try.underlying49 rfl (by kernel_rfl)) rfl ?_; (case hg => (repeat (first | with_reducible refine kA ?_ _ | with_reducible refine kD ?_)); with_reducible refine blk_put (cs := #[.int .u8 c, .slice none 0 0]) ?_ 1 _ rfl; with_reducible refine blk_put (cs := #[.int .u8 0, .slice none 0 0]) ?_ 0 _ rfl; exact BR.out)
  have lo0 : (((w.alloc (.cells #[.int .u8 0, .slice none 0 0] 49)).alloc (.cells #[] 49)).alloc (.cells #[.int .u8 48, .slice (some ⟨w.heap.size + 1, 0, none⟩) 0 0] 49)).heap.size = w.heap.size + 1 + 1 + 1 := by rw [World.size_alloc, World.size_alloc, World.size_alloc]
  have far : ∀ i, w.heap.size + 1 ≤ i → i < w1.heap.size → ((((w1.setCell ⟨w.heap.size, 0, none⟩ (.int .u8 c)).setCell ⟨w.heap.size, 1, none⟩ (.slice (some ⟨w1.heap.size + 1, 0, none⟩) 1 1)).alloc (.cells #[.int .u8 f1, .slice A1 n1 m1] 49)).alloc (.cells #[.int .u8 f1, .slice A1 n1 m1] 49)).heap[i]? = w1.heap[i]? := fun i h1 h2 => by rw [Below.heap_alloc _ _ _ (by rw [World.size_alloc]; simp [World.setCell]; omega), Below.heap_alloc _ _ _ (by simp [World.setCell]; omega), Below.heap_setCell _ _ _ _ (by show i ≠ w.heap.size; omega), Below.heap_setCell _ _ _ _ (by show i ≠ w.heap.size; omega)]
  exact ⟨_, _, _, _, rfl, ⟨w1.heap.size + 1, f1, A1, n1, m1, _, w1.heap.size, rfl, rfl, rfl, Nat.le_refl _, by omega, by rw [World.size_alloc, World.size_alloc]; simp [World.setCell], (by rw [World.size_alloc, World.size_alloc, World.size_alloc]; omega), by rw [World.size_alloc, World.size_alloc]; simp [World.setCell]; omega, spec_l7Read.new2 _ _ _ _ (by simp [World.setCell]), hP _ _ _ _ _ _ _ _ HP1.out fun i h1 h2 => far i (by have := lo0; omega) h2⟩, bA (bA ((HB1.out.setCell (p := ⟨w.heap.size, 0, none⟩) (Nat.le_refl _) _).setCell (p := ⟨w.heap.size, 1, none⟩) (Nat.le_refl _) _) _) _⟩
set_option maxHeartbeats 4000000 in
set_option maxRecDepth 100000 in
theorem spec_l7Read.two_z (s : ByteArray) (p : Nat) (w : World) (h : p < s.size) (hs : s.size ≤ 1000) (hc : bt s p = 40) (P : Nat → Nat → World → Int → Option Addr → Nat → Nat → Prop) (ih : ∀ W, Calls Try.prog 43 #[.string s, .int .i64 ((p : Int) + 1)] W (spec_l7Read.Hands P 0 W)) :
  Calls Try.prog 43 #[.string s, .int .i64 p] w (spec_l7Read.Hands (fun _ _ _ _ _ _ _ => True) 0 w) := by
 have hl : ¬ (s.size : Int) ≤ (p : Int) := by omega
 have hl2 : decide ((s.size : Int) ≤ (p : Int)) = false := decide_eq_false hl
 have hx : ∀ h : p < s.size, ((s[p]'h).toNat : Int) = 40 := fun h' => by rw [← hc]; exact bt_at s (p : Int) h'
 have hrg := bt_range s (p : Int)
 obtain ⟨a, ha⟩ : ∃ a : Int, a = (p : Int) + 1 := ⟨_, rfl⟩
 have hw : wrap64 ((p : Int) + 1) = a := by rw [ha]; unfold wrap64; omega
 rw [← ha] at ih
 have ha2 : (p : Int) + 1 = a := ha.symm
 clear ha
 have IH := aM ih
 clear ih hc hrg
 go_enter Try.func43, Try.ntmps43
 go_wp2_with (go_at_call_of 43 a; refine (IH.out _).mono ?_; rintro e w1 ⟨f1, A1, n1, m1, rfl, hp1, hb⟩; obtain ⟨s1, s2, s3⟩ := spec_l7Read.start w; have BR := aM (blk_below s1 hb); have BN := aM (blk_below s2 hb); have HB1 := aM (below_step s3 hb); have HP1 := aM hp1; have l10 := blk_lt BR.out; have l11 : w.heap.size < w1.heap.size + 1 := (by omega); have l12 : w.heap.size < w1.heap.size + 1 + 1 := (by omega); have l20 := blk_lt BN.out; have l21 : w.heap.size + 1 + 1 < w1.heap.size + 1 := (by omega); have e10 := blk_cell BR.out 0; have e11 := blk_cell BR.out 1; have f10 := blk_frozen BR.out 0; have f11 := blk_frozen BR.out 1; have e20 := blk_cell BN.out 0; have e21 := blk_cell BN.out 1; have f20 := blk_frozen BN.out 0; have f21 := blk_frozen BN.out 1; clear s1 s2 s3 hb hp1)
 refine bodyPost_ret (results_ct rfl _ _ w.heap.size 49 (#[.int .u8 48, .slice (some ⟨w.heap.size + 1, 0, none⟩) 0 0]) (0, 0) _ rfl ?hg Try.underlying49 rfl (by kernel_rfl)) rfl ?_; (case hg => (repeat (first | with_reducible refine kA ?_ _ | with_reducible refine kD ?_)); with_reducible refine blk_put (cs := #[.int .u8 48, .slice none 0 0]) ?_ 1 _ rfl; with_reducible refine blk_put (cs := #[.int .u8 0, .slice none 0 0]) ?_ 0 _ rfl; (repeat (first | with_reducible refine kA ?_ _ | with_reducible refine kD ?_)); exact BR.out)
 exact ⟨_, _, _, _, rfl, trivial, by repeat (first | with_reducible exact HB1.out | with_reducible apply bA | with_reducible refine Below.setCell (p := ⟨w.heap.size, 1, none⟩) ?_ (Nat.le_refl _) _ | with_reducible refine Below.setCell (p := ⟨w.heap.size, 0, none⟩) ?_ (Nat.le_refl _) _)⟩
set_option maxHeartbeats 4000000 in
set_option maxRecDepth 100000 in
theorem spec_l7Read.two_past (s : ByteArray) (p : Nat) (w : World) (h : p < s.size) (hs : s.size ≤ 1000) (hc : bt s p = 40) (m : Nat) (hm : 1 ≤ m) (hm2 : ¬ m < s.size) (P : Nat → Nat → World → Int → Option Addr → Nat → Nat → Prop) (ih : ∀ W, Calls Try.prog 43 #[.string s, .int .i64 ((p : Int) + 1)] W (spec_l7Read.Hands P m W)) :
  Calls Try.prog 43 #[.string s, .int .i64 p] w (spec_l7Read.Hands (fun _ _ _ _ _ _ _ => True) 0 w) := by
 have hl : ¬ (s.size : Int) ≤ (p : Int) := by omega
 have hl2 : decide ((s.size : Int) ≤ (p : Int)) = false := decide_eq_false hl
 have hx : ∀ h : p < s.size, ((s[p]'h).toNat : Int) = 40 := fun h' => by rw [← hc]; exact bt_at s (p : Int) h'
 have hrg := bt_range s (p : Int)
 obtain ⟨a, ha⟩ : ∃ a : Int, a = (p : Int) + 1 := ⟨_, rfl⟩
 have hw : wrap64 ((p : Int) + 1) = a := by rw [ha]; unfold wrap64; omega
 rw [← ha] at ih
 have ha2 : (p : Int) + 1 = a := ha.symm
 clear ha
 have IH := aM ih
 clear ih hc hrg
 have z0 : ((m : Int) == 0) = false := beq_eq_false_iff_ne.mpr (by omega)
 have z1 : ¬ (m : Int) = 0 := by omega
 have zl : (s.size : Int) ≤ (m : Int) := by omega
 have zl2 : decide ((s.size : Int) ≤ (m : Int)) = true := decide_eq_true zl
 go_enter Try.func43, Try.ntmps43
 go_wp2_with (go_at_call_of 43 a; refine (IH.out _).mono ?_; rintro e w1 ⟨f1, A1, n1, m1, rfl, hp1, hb⟩; obtain ⟨s1, s2, s3⟩ := spec_l7Read.start w; have BR := aM (blk_below s1 hb); have BN := aM (blk_below s2 hb); have HB1 := aM (below_step s3 hb); have HP1 := aM hp1; have l10 := blk_lt BR.out; have l11 : w.heap.size < w1.heap.size + 1 := (by omega); have l12 : w.heap.size < w1.heap.size + 1 + 1 := (by omega); have l20 := blk_lt BN.out; have l21 : w.heap.size + 1 + 1 < w1.heap.size + 1 := (by omega); have e10 := blk_cell BR.out 0; have e11 := blk_cell BR.out 1; have f10 := blk_frozen BR.out 0; have f11 := blk_frozen BR.out 1; have e20 := blk_cell BN.out 0; have e21 := blk_cell BN.out 1; have f20 := blk_frozen BN.out 0; have f21 := blk_frozen BN.out 1; clear s1 s2 s3 hb hp1)
 refine bodyPost_ret (results_ct rfl _ _ w.heap.size 49 (#[.int .u8 48, .slice (some ⟨w.heap.size + 1, 0, none⟩) 0 0]) (0, 0) _ rfl ?hg Try.underlying49 rfl (by kernel_rfl)) rfl ?_; (case hg => (repeat (first | with_reducible refine kA ?_ _ | with_reducible refine kD ?_)); with_reducible refine blk_put (cs := #[.int .u8 48, .slice none 0 0]) ?_ 1 _ rfl; with_reducible refine blk_put (cs := #[.int .u8 0, .slice none 0 0]) ?_ 0 _ rfl; (repeat (first | with_reducible refine kA ?_ _ | with_reducible refine kD ?_)); exact BR.out)
 exact ⟨_, _, _, _, rfl, trivial, by repeat (first | with_reducible exact HB1.out | with_reducible apply bA | with_reducible refine Below.setCell (p := ⟨w.heap.size, 1, none⟩) ?_ (Nat.le_refl _) _ | with_reducible refine Below.setCell (p := ⟨w.heap.size, 0, none⟩) ?_ (Nat.le_refl _) _)⟩
set_option maxHeartbeats 4000000 in
set_option maxRecDepth 100000 in
theorem spec_l7Read.two_sign (s : ByteArray) (p : Nat) (w : World) (h : p < s.size) (hs : s.size ≤ 1000) (hc : bt s p = 40) (m : Nat) (hm : 1 ≤ m) (hm2 : m < s.size) (o : Int) (ho : bt s m = o) (h1 : ¬ (o = 43 ∨ o = 46 ∨ o = 38)) (P : Nat → Nat → World → Int → Option Addr → Nat → Nat → Prop) (ih : ∀ W, Calls Try.prog 43 #[.string s, .int .i64 ((p : Int) + 1)] W (spec_l7Read.Hands P m W)) :
  Calls Try.prog 43 #[.string s, .int .i64 p] w (spec_l7Read.Hands (fun _ _ _ _ _ _ _ => True) 0 w) := by
 have hl : ¬ (s.size : Int) ≤ (p : Int) := by omega
 have hl2 : decide ((s.size : Int) ≤ (p : Int)) = false := decide_eq_false hl
 have hx : ∀ h : p < s.size, ((s[p]'h).toNat : Int) = 40 := fun h' => by rw [← hc]; exact bt_at s (p : Int) h'
 have hrg := bt_range s (p : Int)
 obtain ⟨a, ha⟩ : ∃ a : Int, a = (p : Int) + 1 := ⟨_, rfl⟩
 have hw : wrap64 ((p : Int) + 1) = a := by rw [ha]; unfold wrap64; omega
 rw [← ha] at ih
 have ha2 : (p : Int) + 1 = a := ha.symm
 clear ha
 have IH := aM ih
 clear ih hc hrg
 have z0 : ((m : Int) == 0) = false := beq_eq_false_iff_ne.mpr (by omega)
 have z1 : ¬ (m : Int) = 0 := by omega
 have zl : ¬ (s.size : Int) ≤ (m : Int) := by omega
 have zl2 : decide ((s.size : Int) ≤ (m : Int)) = false := decide_eq_false zl
 have hy : ∀ h : m < s.size, ((s[m]'h).toNat : Int) = o := fun h' => by rw [← ho]; exact bt_at s (m : Int) h'
 have q43 : (o != 43) = true := bne_iff_ne.mpr (by omega)
 have q46 : (o != 46) = true := bne_iff_ne.mpr (by omega)
 have q38 : (o != 38) = true := bne_iff_ne.mpr (by omega)
 clear ho h1
 go_enter Try.func43, Try.ntmps43
 go_wp2_with (go_at_call_of 43 a; refine (IH.out _).mono ?_; rintro e w1 ⟨f1, A1, n1, m1, rfl, hp1, hb⟩; obtain ⟨s1, s2, s3⟩ := spec_l7Read.start w; have BR := aM (blk_below s1 hb); have BN := aM (blk_below s2 hb); have HB1 := aM (below_step s3 hb); have HP1 := aM hp1; have l10 := blk_lt BR.out; have l11 : w.heap.size < w1.heap.size + 1 := (by omega); have l12 : w.heap.size < w1.heap.size + 1 + 1 := (by omega); have l20 := blk_lt BN.out; have l21 : w.heap.size + 1 + 1 < w1.heap.size + 1 := (by omega); have e10 := blk_cell BR.out 0; have e11 := blk_cell BR.out 1; have f10 := blk_frozen BR.out 0; have f11 := blk_frozen BR.out 1; have e20 := blk_cell BN.out 0; have e21 := blk_cell BN.out 1; have f20 := blk_frozen BN.out 0; have f21 := blk_frozen BN.out 1; clear s1 s2 s3 hb hp1)
 refine bodyPost_ret (results_ct rfl _ _ w.heap.size 49 (#[.int .u8 48, .slice (some ⟨w.heap.size + 1, 0, none⟩) 0 0]) (0, 0) _ rfl ?hg Try.underlying49 rfl (by kernel_rfl)) rfl ?_; (case hg => (repeat (first | with_reducible refine kA ?_ _ | with_reducible refine kD ?_)); with_reducible refine blk_put (cs := #[.int .u8 48, .slice none 0 0]) ?_ 1 _ rfl; with_reducible refine blk_put (cs := #[.int .u8 0, .slice none 0 0]) ?_ 0 _ rfl; (repeat (first | with_reducible refine kA ?_ _ | with_reducible refine kD ?_)); exact BR.out)
 exact ⟨_, _, _, _, rfl, trivial, by repeat (first | with_reducible exact HB1.out | with_reducible apply bA | with_reducible refine Below.setCell (p := ⟨w.heap.size, 1, none⟩) ?_ (Nat.le_refl _) _ | with_reducible refine Below.setCell (p := ⟨w.heap.size, 0, none⟩) ?_ (Nat.le_refl _) _)⟩
set_option maxHeartbeats 4000000 in
set_option maxRecDepth 100000 in
theorem spec_l7Read.two2_z (s : ByteArray) (p : Nat) (w : World) (h : p < s.size) (hs : s.size ≤ 1000) (hc : bt s p = 40) (m : Nat) (hm : 1 ≤ m) (hm2 : m < s.size) (o : Int) (ho : bt s m = o) (h1 : o = 43 ∨ o = 46 ∨ o = 38) (P : Nat → Nat → World → Int → Option Addr → Nat → Nat → Prop) (ih : ∀ W, Calls Try.prog 43 #[.string s, .int .i64 ((p : Int) + 1)] W (spec_l7Read.Hands P m W)) (Q : Nat → Nat → World → Int → Option Addr → Nat → Nat → Prop) (ih2 : ∀ W, Calls Try.prog 43 #[.string s, .int .i64 ((m : Int) + 1)] W (spec_l7Read.Hands Q 0 W)) :
  Calls Try.prog 43 #[.string s, .int .i64 p] w (spec_l7Read.Hands (fun _ _ _ _ _ _ _ => True) 0 w) := by
 have hl : ¬ (s.size : Int) ≤ (p : Int) := by omega
 have hl2 : decide ((s.size : Int) ≤ (p : Int)) = false := decide_eq_false hl
 have hx : ∀ h : p < s.size, ((s[p]'h).toNat : Int) = 40 := fun h' => by rw [← hc]; exact bt_at s (p : Int) h'
 have hrg := bt_range s (p : Int)
 obtain ⟨a, ha⟩ : ∃ a : Int, a = (p : Int) + 1 := ⟨_, rfl⟩
 have hw : wrap64 ((p : Int) + 1) = a := by rw [ha]; unfold wrap64; omega
 rw [← ha] at ih
 have ha2 : (p : Int) + 1 = a := ha.symm
 clear ha
 have IH := aM ih
 clear ih hc hrg
 have z0 : ((m : Int) == 0) = false := beq_eq_false_iff_ne.mpr (by omega)
 have z1 : ¬ (m : Int) = 0 := by omega
 have zl : ¬ (s.size : Int) ≤ (m : Int) := by omega
 have zl2 : decide ((s.size : Int) ≤ (m : Int)) = false := decide_eq_false zl
 have hy : ∀ h : m < s.size, ((s[m]'h).toNat : Int) = o := fun h' => by rw [← ho]; exact bt_at s (m : Int) h'
 obtain ⟨b, hb⟩ : ∃ b : Int, b = (m : Int) + 1 := ⟨_, rfl⟩
 have hw2 : wrap64 ((m : Int) + 1) = b := by rw [hb]; unfold wrap64; omega
 rw [← hb] at ih2
 have hb2 : (m : Int) + 1 = b := hb.symm
 clear hb
 have IH2 := aM ih2
 clear ih2 ho
 rcases h1 with rfl | rfl | rfl
 ·go_enter Try.func43, Try.ntmps43
  go_wp2_with (first | (go_at_call_of 43 a; refine (IH.out _).mono ?_; rintro e w1 ⟨f1, A1, n1, m1, rfl, hp1, hb⟩; obtain ⟨s1, s2, s3⟩ := spec_l7Read.start w; have BR := aM (blk_below s1 hb); have BN := aM (blk_below s2 hb); have HB1 := aM (below_step s3 hb); have HP1 := aM hp1; have l10 := blk_lt BR.out; have l11 : w.heap.size < w1.heap.size + 1 := (by omega); have l12 : w.heap.size < w1.heap.size + 1 + 1 := (by omega); have l20 := blk_lt BN.out; have l21 : w.heap.size + 1 + 1 < w1.heap.size + 1 := (by omega); have e10 := blk_cell BR.out 0; have e11 := blk_cell BR.out 1; have f10 := blk_frozen BR.out 0; have f11 := blk_frozen BR.out 1; have e20 := blk_cell BN.out 0; have e21 := blk_cell BN.out 1; have f20 := blk_frozen BN.out 0; have f21 := blk_frozen BN.out 1; clear s1 s2 s3 hb hp1) | (go_at_call_of 43 b; refine (IH2.out _).mono ?_; rintro e w2 ⟨f2, A2, n2, m2, rfl, hp2, hb⟩; have BR2 := aM (blk_below (kA BR.out (.cells #[.int .u8 f1, .slice A1 n1 m1] 49)) hb); have BN2 := aM (blk_below (kA BN.out (.cells #[.int .u8 f1, .slice A1 n1 m1] 49)) hb); have BT := aM (blk_below (blk_new w1 (.cells #[.int .u8 f1, .slice A1 n1 m1] 49)) hb); have HB2 := aM (below_step (bA HB1.out (.cells #[.int .u8 f1, .slice A1 n1 m1] 49)) hb); have HP2 := aM hp2; have GR := aM hb; have l30 := blk_lt BR2.out; have l31 : w.heap.size < w2.heap.size + 1 := (by omega); have l32 : w.heap.size < w2.heap.size + 1 + 1 := (by omega); have l40 := blk_lt BN2.out; have l41 : w.heap.size + 1 + 1 < w2.heap.size + 1 := (by omega); have l50_ := blk_lt BT.out; have l51_ : w1.heap.size < w2.heap.size + 1 := (by omega); have e30 := blk_cell BR2.out 0; have e31 := blk_cell BR2.out 1; have f30 := blk_frozen BR2.out 0; have f31 := blk_frozen BR2.out 1; have e40 := blk_cell BN2.out 0; have e41 := blk_cell BN2.out 1; have f40 := blk_frozen BN2.out 0; have f41 := blk_frozen BN2.out 1; have e50 := blk_cell BT.out 0; have e51 := blk_cell BT.out 1; have f50 := blk_frozen BT.out 0; have f51 := blk_frozen BT.out 1; clear hb hp2))
  refine bodyPost_ret (results_ct rfl _ _ w.heap.size 49 (#[.int .u8 48, .slice (some ⟨w.heap.size + 1, 0, none⟩) 0 0]) (0, 0) _ rfl ?hg Try.underlying49 rfl (by kernel_rfl)) rfl ?_; (case hg => (repeat (first | with_reducible refine kA ?_ _ | with_reducible refine kD ?_)); with_reducible refine blk_put (cs := #[.int .u8 48, .slice none 0 0]) ?_ 1 _ rfl; with_reducible refine blk_put (cs := #[.int .u8 0, .slice none 0 0]) ?_ 0 _ rfl; (repeat (first | with_reducible refine kA ?_ _ | with_reducible refine kD ?_)); exact BR2.out)
  exact ⟨_, _, _, _, rfl, trivial, by repeat (first | with_reducible exact HB2.out | with_reducible apply bA | with_reducible refine Below.setCell (p := ⟨w.heap.size, 1, none⟩) ?_ (Nat.le_refl _) _ | with_reducible refine Below.setCell (p := ⟨w.heap.size, 0, none⟩) ?_ (Nat.le_refl _) _)⟩
 ·go_enter Try.func43, Try.ntmps43
  go_wp2_with (first | (go_at_call_of 43 a; refine (IH.out _).mono ?_; rintro e w1 ⟨f1, A1, n1, m1, rfl, hp1, hb⟩; obtain ⟨s1, s2, s3⟩ := spec_l7Read.start w; have BR := aM (blk_below s1 hb); have BN := aM (blk_below s2 hb); have HB1 := aM (below_step s3 hb); have HP1 := aM hp1; have l10 := blk_lt BR.out; have l11 : w.heap.size < w1.heap.size + 1 := (by omega); have l12 : w.heap.size < w1.heap.size + 1 + 1 := (by omega); have l20 := blk_lt BN.out; have l21 : w.heap.size + 1 + 1 < w1.heap.size + 1 := (by omega); have e10 := blk_cell BR.out 0; have e11 := blk_cell BR.out 1; have f10 := blk_frozen BR.out 0; have f11 := blk_frozen BR.out 1; have e20 := blk_cell BN.out 0; have e21 := blk_cell BN.out 1; have f20 := blk_frozen BN.out 0; have f21 := blk_frozen BN.out 1; clear s1 s2 s3 hb hp1) | (go_at_call_of 43 b; refine (IH2.out _).mono ?_; rintro e w2 ⟨f2, A2, n2, m2, rfl, hp2, hb⟩; have BR2 := aM (blk_below (kA BR.out (.cells #[.int .u8 f1, .slice A1 n1 m1] 49)) hb); have BN2 := aM (blk_below (kA BN.out (.cells #[.int .u8 f1, .slice A1 n1 m1] 49)) hb); have BT := aM (blk_below (blk_new w1 (.cells #[.int .u8 f1, .slice A1 n1 m1] 49)) hb); have HB2 := aM (below_step (bA HB1.out (.cells #[.int .u8 f1, .slice A1 n1 m1] 49)) hb); have HP2 := aM hp2; have GR := aM hb; have l30 := blk_lt BR2.out; have l31 : w.heap.size < w2.heap.size + 1 := (by omega); have l32 : w.heap.size < w2.heap.size + 1 + 1 := (by omega); have l40 := blk_lt BN2.out; have l41 : w.heap.size + 1 + 1 < w2.heap.size + 1 := (by omega); have l50_ := blk_lt BT.out; have l51_ : w1.heap.size < w2.heap.size + 1 := (by omega); have e30 := blk_cell BR2.out 0; have e31 := blk_cell BR2.out 1; have f30 := blk_frozen BR2.out 0; have f31 := blk_frozen BR2.out 1; have e40 := blk_cell BN2.out 0; have e41 := blk_cell BN2.out 1; have f40 := blk_frozen BN2.out 0; have f41 := blk_frozen BN2.out 1; have e50 := blk_cell BT.out 0; have e51 := blk_cell BT.out 1; have f50 := blk_frozen BT.out 0; have f51 := blk_frozen BT.out 1; clear hb hp2))
  refine bodyPost_ret (results_ct rfl _ _ w.heap.size 49 (#[.int .u8 48, .slice (some ⟨w.heap.size + 1, 0, none⟩) 0 0]) (0, 0) _ rfl ?hg Try.underlying49 rfl (by kernel_rfl)) rfl ?_; (case hg => (repeat (first | with_reducible refine kA ?_ _ | with_reducible refine kD ?_)); with_reducible refine blk_put (cs := #[.int .u8 48, .slice none 0 0]) ?_ 1 _ rfl; with_reducible refine blk_put (cs := #[.int .u8 0, .slice none 0 0]) ?_ 0 _ rfl; (repeat (first | with_reducible refine kA ?_ _ | with_reducible refine kD ?_)); exact BR2.out)
  exact ⟨_, _, _, _, rfl, trivial, by repeat (first | with_reducible exact HB2.out | with_reducible apply bA | with_reducible refine Below.setCell (p := ⟨w.heap.size, 1, none⟩) ?_ (Nat.le_refl _) _ | with_reducible refine Below.setCell (p := ⟨w.heap.size, 0, none⟩) ?_ (Nat.le_refl _) _)⟩
 ·go_enter Try.func43, Try.ntmps43
  go_wp2_with (first | (go_at_call_of 43 a; refine (IH.out _).mono ?_; rintro e w1 ⟨f1, A1, n1, m1, rfl, hp1, hb⟩; obtain ⟨s1, s2, s3⟩ := spec_l7Read.start w; have BR := aM (blk_below s1 hb); have BN := aM (blk_below s2 hb); have HB1 := aM (below_step s3 hb); have HP1 := aM hp1; have l10 := blk_lt BR.out; have l11 : w.heap.size < w1.heap.size + 1 := (by omega); have l12 : w.heap.size < w1.heap.size + 1 + 1 := (by omega); have l20 := blk_lt BN.out; have l21 : w.heap.size + 1 + 1 < w1.heap.size + 1 := (by omega); have e10 := blk_cell BR.out 0; have e11 := blk_cell BR.out 1; have f10 := blk_frozen BR.out 0; have f11 := blk_frozen BR.out 1; have e20 := blk_cell BN.out 0; have e21 := blk_cell BN.out 1; have f20 := blk_frozen BN.out 0; have f21 := blk_frozen BN.out 1; clear s1 s2 s3 hb hp1) | (go_at_call_of 43 b; refine (IH2.out _).mono ?_; rintro e w2 ⟨f2, A2, n2, m2, rfl, hp2, hb⟩; have BR2 := aM (blk_below (kA BR.out (.cells #[.int .u8 f1, .slice A1 n1 m1] 49)) hb); have BN2 := aM (blk_below (kA BN.out (.cells #[.int .u8 f1, .slice A1 n1 m1] 49)) hb); have BT := aM (blk_below (blk_new w1 (.cells #[.int .u8 f1, .slice A1 n1 m1] 49)) hb); have HB2 := aM (below_step (bA HB1.out (.cells #[.int .u8 f1, .slice A1 n1 m1] 49)) hb); have HP2 := aM hp2; have GR := aM hb; have l30 := blk_lt BR2.out; have l31 : w.heap.size < w2.heap.size + 1 := (by omega); have l32 : w.heap.size < w2.heap.size + 1 + 1 := (by omega); have l40 := blk_lt BN2.out; have l41 : w.heap.size + 1 + 1 < w2.heap.size + 1 := (by omega); have l50_ := blk_lt BT.out; have l51_ : w1.heap.size < w2.heap.size + 1 := (by omega); have e30 := blk_cell BR2.out 0; have e31 := blk_cell BR2.out 1; have f30 := blk_frozen BR2.out 0; have f31 := blk_frozen BR2.out 1; have e40 := blk_cell BN2.out 0; have e41 := blk_cell BN2.out 1; have f40 := blk_frozen BN2.out 0; have f41 := blk_frozen BN2.out 1; have e50 := blk_cell BT.out 0; have e51 := blk_cell BT.out 1; have f50 := blk_frozen BT.out 0; have f51 := blk_frozen BT.out 1; clear hb hp2))
  refine bodyPost_ret (results_ct rfl _ _ w.heap.size 49 (#[.int .u8 48, .slice (some ⟨w.heap.size + 1, 0, none⟩) 0 0]) (0, 0) _ rfl ?hg Try.underlying49 rfl (by kernel_rfl)) rfl ?_; (case hg => (repeat (first | with_reducible refine kA ?_ _ | with_reducible refine kD ?_)); with_reducible refine blk_put (cs := #[.int .u8 48, .slice none 0 0]) ?_ 1 _ rfl; with_reducible refine blk_put (cs := #[.int .u8 0, .slice none 0 0]) ?_ 0 _ rfl; (repeat (first | with_reducible refine kA ?_ _ | with_reducible refine kD ?_)); exact BR2.out)
  exact ⟨_, _, _, _, rfl, trivial, by repeat (first | with_reducible exact HB2.out | with_reducible apply bA | with_reducible refine Below.setCell (p := ⟨w.heap.size, 1, none⟩) ?_ (Nat.le_refl _) _ | with_reducible refine Below.setCell (p := ⟨w.heap.size, 0, none⟩) ?_ (Nat.le_refl _) _)⟩
set_option maxHeartbeats 4000000 in
set_option maxRecDepth 100000 in
theorem spec_l7Read.two2_past (s : ByteArray) (p : Nat) (w : World) (h : p < s.size) (hs : s.size ≤ 1000) (hc : bt s p = 40) (m : Nat) (hm : 1 ≤ m) (hm2 : m < s.size) (o : Int) (ho : bt s m = o) (h1 : o = 43 ∨ o = 46 ∨ o = 38) (P : Nat → Nat → World → Int → Option Addr → Nat → Nat → Prop) (ih : ∀ W, Calls Try.prog 43 #[.string s, .int .i64 ((p : Int) + 1)] W (spec_l7Read.Hands P m W)) (q : Nat) (hq : 1 ≤ q) (hq2 : ¬ q < s.size) (Q : Nat → Nat → World → Int → Option Addr → Nat → Nat → Prop) (ih2 : ∀ W, Calls Try.prog 43 #[.string s, .int .i64 ((m : Int) + 1)] W (spec_l7Read.Hands Q q W)) :
  Calls Try.prog 43 #[.string s, .int .i64 p] w (spec_l7Read.Hands (fun _ _ _ _ _ _ _ => True) 0 w) := by
 have hl : ¬ (s.size : Int) ≤ (p : Int) := by omega
 have hl2 : decide ((s.size : Int) ≤ (p : Int)) = false := decide_eq_false hl
 have hx : ∀ h : p < s.size, ((s[p]'h).toNat : Int) = 40 := fun h' => by rw [← hc]; exact bt_at s (p : Int) h'
 have hrg := bt_range s (p : Int)
 obtain ⟨a, ha⟩ : ∃ a : Int, a = (p : Int) + 1 := ⟨_, rfl⟩
 have hw : wrap64 ((p : Int) + 1) = a := by rw [ha]; unfold wrap64; omega
 rw [← ha] at ih
 have ha2 : (p : Int) + 1 = a := ha.symm
 clear ha
 have IH := aM ih
 clear ih hc hrg
 have z0 : ((m : Int) == 0) = false := beq_eq_false_iff_ne.mpr (by omega)
 have z1 : ¬ (m : Int) = 0 := by omega
 have zl : ¬ (s.size : Int) ≤ (m : Int) := by omega
 have zl2 : decide ((s.size : Int) ≤ (m : Int)) = false := decide_eq_false zl
 have hy : ∀ h : m < s.size, ((s[m]'h).toNat : Int) = o := fun h' => by rw [← ho]; exact bt_at s (m : Int) h'
 obtain ⟨b, hb⟩ : ∃ b : Int, b = (m : Int) + 1 := ⟨_, rfl⟩
 have hw2 : wrap64 ((m : Int) + 1) = b := by rw [hb]; unfold wrap64; omega
 rw [← hb] at ih2
 have hb2 : (m : Int) + 1 = b := hb.symm
 clear hb
 have IH2 := aM ih2
 clear ih2 ho
 have y0 : ((q : Int) == 0) = false := beq_eq_false_iff_ne.mpr (by omega)
 have y1 : ¬ (q : Int) = 0 := by omega
 have yl : (s.size : Int) ≤ (q : Int) := by omega
 have yl2 : decide ((s.size : Int) ≤ (q : Int)) = true := decide_eq_true yl
 rcases h1 with rfl | rfl | rfl
 ·go_enter Try.func43, Try.ntmps43
  go_wp2_with (first | (go_at_call_of 43 a; refine (IH.out _).mono ?_; rintro e w1 ⟨f1, A1, n1, m1, rfl, hp1, hb⟩; obtain ⟨s1, s2, s3⟩ := spec_l7Read.start w; have BR := aM (blk_below s1 hb); have BN := aM (blk_below s2 hb); have HB1 := aM (below_step s3 hb); have HP1 := aM hp1; have l10 := blk_lt BR.out; have l11 : w.heap.size < w1.heap.size + 1 := (by omega); have l12 : w.heap.size < w1.heap.size + 1 + 1 := (by omega); have l20 := blk_lt BN.out; have l21 : w.heap.size + 1 + 1 < w1.heap.size + 1 := (by omega); have e10 := blk_cell BR.out 0; have e11 := blk_cell BR.out 1; have f10 := blk_frozen BR.out 0; have f11 := blk_frozen BR.out 1; have e20 := blk_cell BN.out 0; have e21 := blk_cell BN.out 1; have f20 := blk_frozen BN.out 0; have f21 := blk_frozen BN.out 1; clear s1 s2 s3 hb hp1) | (go_at_call_of 43 b; refine (IH2.out _).mono ?_; rintro e w2 ⟨f2, A2, n2, m2, rfl, hp2, hb⟩; have BR2 := aM (blk_below (kA BR.out (.cells #[.int .u8 f1, .slice A1 n1 m1] 49)) hb); have BN2 := aM (blk_below (kA BN.out (.cells #[.int .u8 f1, .slice A1 n1 m1] 49)) hb); have BT := aM (blk_below (blk_new w1 (.cells #[.int .u8 f1, .slice A1 n1 m1] 49)) hb); have HB2 := aM (below_step (bA HB1.out (.cells #[.int .u8 f1, .slice A1 n1 m1] 49)) hb); have HP2 := aM hp2; have GR := aM hb; have l30 := blk_lt BR2.out; have l31 : w.heap.size < w2.heap.size + 1 := (by omega); have l32 : w.heap.size < w2.heap.size + 1 + 1 := (by omega); have l40 := blk_lt BN2.out; have l41 : w.heap.size + 1 + 1 < w2.heap.size + 1 := (by omega); have l50_ := blk_lt BT.out; have l51_ : w1.heap.size < w2.heap.size + 1 := (by omega); have e30 := blk_cell BR2.out 0; have e31 := blk_cell BR2.out 1; have f30 := blk_frozen BR2.out 0; have f31 := blk_frozen BR2.out 1; have e40 := blk_cell BN2.out 0; have e41 := blk_cell BN2.out 1; have f40 := blk_frozen BN2.out 0; have f41 := blk_frozen BN2.out 1; have e50 := blk_cell BT.out 0; have e51 := blk_cell BT.out 1; have f50 := blk_frozen BT.out 0; have f51 := blk_frozen BT.out 1; clear hb hp2))
  refine bodyPost_ret (results_ct rfl _ _ w.heap.size 49 (#[.int .u8 48, .slice (some ⟨w.heap.size + 1, 0, none⟩) 0 0]) (0, 0) _ rfl ?hg Try.underlying49 rfl (by kernel_rfl)) rfl ?_; (case hg => (repeat (first | with_reducible refine kA ?_ _ | with_reducible refine kD ?_)); with_reducible refine blk_put (cs := #[.int .u8 48, .slice none 0 0]) ?_ 1 _ rfl; with_reducible refine blk_put (cs := #[.int .u8 0, .slice none 0 0]) ?_ 0 _ rfl; (repeat (first | with_reducible refine kA ?_ _ | with_reducible refine kD ?_)); exact BR2.out)
  exact ⟨_, _, _, _, rfl, trivial, by repeat (first | with_reducible exact HB2.out | with_reducible apply bA | with_reducible refine Below.setCell (p := ⟨w.heap.size, 1, none⟩) ?_ (Nat.le_refl _) _ | with_reducible refine Below.setCell (p := ⟨w.heap.size, 0, none⟩) ?_ (Nat.le_refl _) _)⟩
 ·go_enter Try.func43, Try.ntmps43
  go_wp2_with (first | (go_at_call_of 43 a; refine (IH.out _).mono ?_; rintro e w1 ⟨f1, A1, n1, m1, rfl, hp1, hb⟩; obtain ⟨s1, s2, s3⟩ := spec_l7Read.start w; have BR := aM (blk_below s1 hb); have BN := aM (blk_below s2 hb); have HB1 := aM (below_step s3 hb); have HP1 := aM hp1; have l10 := blk_lt BR.out; have l11 : w.heap.size < w1.heap.size + 1 := (by omega); have l12 : w.heap.size < w1.heap.size + 1 + 1 := (by omega); have l20 := blk_lt BN.out; have l21 : w.heap.size + 1 + 1 < w1.heap.size + 1 := (by omega); have e10 := blk_cell BR.out 0; have e11 := blk_cell BR.out 1; have f10 := blk_frozen BR.out 0; have f11 := blk_frozen BR.out 1; have e20 := blk_cell BN.out 0; have e21 := blk_cell BN.out 1; have f20 := blk_frozen BN.out 0; have f21 := blk_frozen BN.out 1; clear s1 s2 s3 hb hp1) | (go_at_call_of 43 b; refine (IH2.out _).mono ?_; rintro e w2 ⟨f2, A2, n2, m2, rfl, hp2, hb⟩; have BR2 := aM (blk_below (kA BR.out (.cells #[.int .u8 f1, .slice A1 n1 m1] 49)) hb); have BN2 := aM (blk_below (kA BN.out (.cells #[.int .u8 f1, .slice A1 n1 m1] 49)) hb); have BT := aM (blk_below (blk_new w1 (.cells #[.int .u8 f1, .slice A1 n1 m1] 49)) hb); have HB2 := aM (below_step (bA HB1.out (.cells #[.int .u8 f1, .slice A1 n1 m1] 49)) hb); have HP2 := aM hp2; have GR := aM hb; have l30 := blk_lt BR2.out; have l31 : w.heap.size < w2.heap.size + 1 := (by omega); have l32 : w.heap.size < w2.heap.size + 1 + 1 := (by omega); have l40 := blk_lt BN2.out; have l41 : w.heap.size + 1 + 1 < w2.heap.size + 1 := (by omega); have l50_ := blk_lt BT.out; have l51_ : w1.heap.size < w2.heap.size + 1 := (by omega); have e30 := blk_cell BR2.out 0; have e31 := blk_cell BR2.out 1; have f30 := blk_frozen BR2.out 0; have f31 := blk_frozen BR2.out 1; have e40 := blk_cell BN2.out 0; have e41 := blk_cell BN2.out 1; have f40 := blk_frozen BN2.out 0; have f41 := blk_frozen BN2.out 1; have e50 := blk_cell BT.out 0; have e51 := blk_cell BT.out 1; have f50 := blk_frozen BT.out 0; have f51 := blk_frozen BT.out 1; clear hb hp2))
  refine bodyPost_ret (results_ct rfl _ _ w.heap.size 49 (#[.int .u8 48, .slice (some ⟨w.heap.size + 1, 0, none⟩) 0 0]) (0, 0) _ rfl ?hg Try.underlying49 rfl (by kernel_rfl)) rfl ?_; (case hg => (repeat (first | with_reducible refine kA ?_ _ | with_reducible refine kD ?_)); with_reducible refine blk_put (cs := #[.int .u8 48, .slice none 0 0]) ?_ 1 _ rfl; with_reducible refine blk_put (cs := #[.int .u8 0, .slice none 0 0]) ?_ 0 _ rfl; (repeat (first | with_reducible refine kA ?_ _ | with_reducible refine kD ?_)); exact BR2.out)
  exact ⟨_, _, _, _, rfl, trivial, by repeat (first | with_reducible exact HB2.out | with_reducible apply bA | with_reducible refine Below.setCell (p := ⟨w.heap.size, 1, none⟩) ?_ (Nat.le_refl _) _ | with_reducible refine Below.setCell (p := ⟨w.heap.size, 0, none⟩) ?_ (Nat.le_refl _) _)⟩
 ·go_enter Try.func43, Try.ntmps43
  go_wp2_with (first | (go_at_call_of 43 a; refine (IH.out _).mono ?_; rintro e w1 ⟨f1, A1, n1, m1, rfl, hp1, hb⟩; obtain ⟨s1, s2, s3⟩ := spec_l7Read.start w; have BR := aM (blk_below s1 hb); have BN := aM (blk_below s2 hb); have HB1 := aM (below_step s3 hb); have HP1 := aM hp1; have l10 := blk_lt BR.out; have l11 : w.heap.size < w1.heap.size + 1 := (by omega); have l12 : w.heap.size < w1.heap.size + 1 + 1 := (by omega); have l20 := blk_lt BN.out; have l21 : w.heap.size + 1 + 1 < w1.heap.size + 1 := (by omega); have e10 := blk_cell BR.out 0; have e11 := blk_cell BR.out 1; have f10 := blk_frozen BR.out 0; have f11 := blk_frozen BR.out 1; have e20 := blk_cell BN.out 0; have e21 := blk_cell BN.out 1; have f20 := blk_frozen BN.out 0; have f21 := blk_frozen BN.out 1; clear s1 s2 s3 hb hp1) | (go_at_call_of 43 b; refine (IH2.out _).mono ?_; rintro e w2 ⟨f2, A2, n2, m2, rfl, hp2, hb⟩; have BR2 := aM (blk_below (kA BR.out (.cells #[.int .u8 f1, .slice A1 n1 m1] 49)) hb); have BN2 := aM (blk_below (kA BN.out (.cells #[.int .u8 f1, .slice A1 n1 m1] 49)) hb); have BT := aM (blk_below (blk_new w1 (.cells #[.int .u8 f1, .slice A1 n1 m1] 49)) hb); have HB2 := aM (below_step (bA HB1.out (.cells #[.int .u8 f1, .slice A1 n1 m1] 49)) hb); have HP2 := aM hp2; have GR := aM hb; have l30 := blk_lt BR2.out; have l31 : w.heap.size < w2.heap.size + 1 := (by omega); have l32 : w.heap.size < w2.heap.size + 1 + 1 := (by omega); have l40 := blk_lt BN2.out; have l41 : w.heap.size + 1 + 1 < w2.heap.size + 1 := (by omega); have l50_ := blk_lt BT.out; have l51_ : w1.heap.size < w2.heap.size + 1 := (by omega); have e30 := blk_cell BR2.out 0; have e31 := blk_cell BR2.out 1; have f30 := blk_frozen BR2.out 0; have f31 := blk_frozen BR2.out 1; have e40 := blk_cell BN2.out 0; have e41 := blk_cell BN2.out 1; have f40 := blk_frozen BN2.out 0; have f41 := blk_frozen BN2.out 1; have e50 := blk_cell BT.out 0; have e51 := blk_cell BT.out 1; have f50 := blk_frozen BT.out 0; have f51 := blk_frozen BT.out 1; clear hb hp2))
  refine bodyPost_ret (results_ct rfl _ _ w.heap.size 49 (#[.int .u8 48, .slice (some ⟨w.heap.size + 1, 0, none⟩) 0 0]) (0, 0) _ rfl ?hg Try.underlying49 rfl (by kernel_rfl)) rfl ?_; (case hg => (repeat (first | with_reducible refine kA ?_ _ | with_reducible refine kD ?_)); with_reducible refine blk_put (cs := #[.int .u8 48, .slice none 0 0]) ?_ 1 _ rfl; with_reducible refine blk_put (cs := #[.int .u8 0, .slice none 0 0]) ?_ 0 _ rfl; (repeat (first | with_reducible refine kA ?_ _ | with_reducible refine kD ?_)); exact BR2.out)
  exact ⟨_, _, _, _, rfl, trivial, by repeat (first | with_reducible exact HB2.out | with_reducible apply bA | with_reducible refine Below.setCell (p := ⟨w.heap.size, 1, none⟩) ?_ (Nat.le_refl _) _ | with_reducible refine Below.setCell (p := ⟨w.heap.size, 0, none⟩) ?_ (Nat.le_refl _) _)⟩
set_option maxHeartbeats 4000000 in
set_option maxRecDepth 100000 in
theorem spec_l7Read.two2_shut (s : ByteArray) (p : Nat) (w : World) (h : p < s.size) (hs : s.size ≤ 1000) (hc : bt s p = 40) (m : Nat) (hm : 1 ≤ m) (hm2 : m < s.size) (o : Int) (ho : bt s m = o) (h1 : o = 43 ∨ o = 46 ∨ o = 38) (P : Nat → Nat → World → Int → Option Addr → Nat → Nat → Prop) (ih : ∀ W, Calls Try.prog 43 #[.string s, .int .i64 ((p : Int) + 1)] W (spec_l7Read.Hands P m W)) (q : Nat) (hq : 1 ≤ q) (hq2 : q < s.size) (c2 : Int) (hc2 : bt s q = c2) (h2 : ¬ c2 = 41) (Q : Nat → Nat → World → Int → Option Addr → Nat → Nat → Prop) (ih2 : ∀ W, Calls Try.prog 43 #[.string s, .int .i64 ((m : Int) + 1)] W (spec_l7Read.Hands Q q W)) :
  Calls Try.prog 43 #[.string s, .int .i64 p] w (spec_l7Read.Hands (fun _ _ _ _ _ _ _ => True) 0 w) := by
 have hl : ¬ (s.size : Int) ≤ (p : Int) := by omega
 have hl2 : decide ((s.size : Int) ≤ (p : Int)) = false := decide_eq_false hl
 have hx : ∀ h : p < s.size, ((s[p]'h).toNat : Int) = 40 := fun h' => by rw [← hc]; exact bt_at s (p : Int) h'
 have hrg := bt_range s (p : Int)
 obtain ⟨a, ha⟩ : ∃ a : Int, a = (p : Int) + 1 := ⟨_, rfl⟩
 have hw : wrap64 ((p : Int) + 1) = a := by rw [ha]; unfold wrap64; omega
 rw [← ha] at ih
 have ha2 : (p : Int) + 1 = a := ha.symm
 clear ha
 have IH := aM ih
 clear ih hc hrg
 have z0 : ((m : Int) == 0) = false := beq_eq_false_iff_ne.mpr (by omega)
 have z1 : ¬ (m : Int) = 0 := by omega
 have zl : ¬ (s.size : Int) ≤ (m : Int) := by omega
 have zl2 : decide ((s.size : Int) ≤ (m : Int)) = false := decide_eq_false zl
 have hy : ∀ h : m < s.size, ((s[m]'h).toNat : Int) = o := fun h' => by rw [← ho]; exact bt_at s (m : Int) h'
 obtain ⟨b, hb⟩ : ∃ b : Int, b = (m : Int) + 1 := ⟨_, rfl⟩
 have hw2 : wrap64 ((m : Int) + 1) = b := by rw [hb]; unfold wrap64; omega
 rw [← hb] at ih2
 have hb2 : (m : Int) + 1 = b := hb.symm
 clear hb
 have IH2 := aM ih2
 clear ih2 ho
 have y0 : ((q : Int) == 0) = false := beq_eq_false_iff_ne.mpr (by omega)
 have y1 : ¬ (q : Int) = 0 := by omega
 have yl : ¬ (s.size : Int) ≤ (q : Int) := by omega
 have yl2 : decide ((s.size : Int) ≤ (q : Int)) = false := decide_eq_false yl
 have hz : ∀ h : q < s.size, ((s[q]'h).toNat : Int) = c2 := fun h' => by rw [← hc2]; exact bt_at s (q : Int) h'
 clear hc2
 have y41 : (c2 != 41) = true := bne_iff_ne.mpr h2
 clear h2
 rcases h1 with rfl | rfl | rfl
 ·go_enter Try.func43, Try.ntmps43
  go_wp2_with (first | (go_at_call_of 43 a; refine (IH.out _).mono ?_; rintro e w1 ⟨f1, A1, n1, m1, rfl, hp1, hb⟩; obtain ⟨s1, s2, s3⟩ := spec_l7Read.start w; have BR := aM (blk_below s1 hb); have BN := aM (blk_below s2 hb); have HB1 := aM (below_step s3 hb); have HP1 := aM hp1; have l10 := blk_lt BR.out; have l11 : w.heap.size < w1.heap.size + 1 := (by omega); have l12 : w.heap.size < w1.heap.size + 1 + 1 := (by omega); have l20 := blk_lt BN.out; have l21 : w.heap.size + 1 + 1 < w1.heap.size + 1 := (by omega); have e10 := blk_cell BR.out 0; have e11 := blk_cell BR.out 1; have f10 := blk_frozen BR.out 0; have f11 := blk_frozen BR.out 1; have e20 := blk_cell BN.out 0; have e21 := blk_cell BN.out 1; have f20 := blk_frozen BN.out 0; have f21 := blk_frozen BN.out 1; clear s1 s2 s3 hb hp1) | (go_at_call_of 43 b; refine (IH2.out _).mono ?_; rintro e w2 ⟨f2, A2, n2, m2, rfl, hp2, hb⟩; have BR2 := aM (blk_below (kA BR.out (.cells #[.int .u8 f1, .slice A1 n1 m1] 49)) hb); have BN2 := aM (blk_below (kA BN.out (.cells #[.int .u8 f1, .slice A1 n1 m1] 49)) hb); have BT := aM (blk_below (blk_new w1 (.cells #[.int .u8 f1, .slice A1 n1 m1] 49)) hb); have HB2 := aM (below_step (bA HB1.out (.cells #[.int .u8 f1, .slice A1 n1 m1] 49)) hb); have HP2 := aM hp2; have GR := aM hb; have l30 := blk_lt BR2.out; have l31 : w.heap.size < w2.heap.size + 1 := (by omega); have l32 : w.heap.size < w2.heap.size + 1 + 1 := (by omega); have l40 := blk_lt BN2.out; have l41 : w.heap.size + 1 + 1 < w2.heap.size + 1 := (by omega); have l50_ := blk_lt BT.out; have l51_ : w1.heap.size < w2.heap.size + 1 := (by omega); have e30 := blk_cell BR2.out 0; have e31 := blk_cell BR2.out 1; have f30 := blk_frozen BR2.out 0; have f31 := blk_frozen BR2.out 1; have e40 := blk_cell BN2.out 0; have e41 := blk_cell BN2.out 1; have f40 := blk_frozen BN2.out 0; have f41 := blk_frozen BN2.out 1; have e50 := blk_cell BT.out 0; have e51 := blk_cell BT.out 1; have f50 := blk_frozen BT.out 0; have f51 := blk_frozen BT.out 1; clear hb hp2))
  refine bodyPost_ret (results_ct rfl _ _ w.heap.size 49 (#[.int .u8 48, .slice (some ⟨w.heap.size + 1, 0, none⟩) 0 0]) (0, 0) _ rfl ?hg Try.underlying49 rfl (by kernel_rfl)) rfl ?_; (case hg => (repeat (first | with_reducible refine kA ?_ _ | with_reducible refine kD ?_)); with_reducible refine blk_put (cs := #[.int .u8 48, .slice none 0 0]) ?_ 1 _ rfl; with_reducible refine blk_put (cs := #[.int .u8 0, .slice none 0 0]) ?_ 0 _ rfl; (repeat (first | with_reducible refine kA ?_ _ | with_reducible refine kD ?_)); exact BR2.out)
  exact ⟨_, _, _, _, rfl, trivial, by repeat (first | with_reducible exact HB2.out | with_reducible apply bA | with_reducible refine Below.setCell (p := ⟨w.heap.size, 1, none⟩) ?_ (Nat.le_refl _) _ | with_reducible refine Below.setCell (p := ⟨w.heap.size, 0, none⟩) ?_ (Nat.le_refl _) _)⟩
 ·go_enter Try.func43, Try.ntmps43
  go_wp2_with (first | (go_at_call_of 43 a; refine (IH.out _).mono ?_; rintro e w1 ⟨f1, A1, n1, m1, rfl, hp1, hb⟩; obtain ⟨s1, s2, s3⟩ := spec_l7Read.start w; have BR := aM (blk_below s1 hb); have BN := aM (blk_below s2 hb); have HB1 := aM (below_step s3 hb); have HP1 := aM hp1; have l10 := blk_lt BR.out; have l11 : w.heap.size < w1.heap.size + 1 := (by omega); have l12 : w.heap.size < w1.heap.size + 1 + 1 := (by omega); have l20 := blk_lt BN.out; have l21 : w.heap.size + 1 + 1 < w1.heap.size + 1 := (by omega); have e10 := blk_cell BR.out 0; have e11 := blk_cell BR.out 1; have f10 := blk_frozen BR.out 0; have f11 := blk_frozen BR.out 1; have e20 := blk_cell BN.out 0; have e21 := blk_cell BN.out 1; have f20 := blk_frozen BN.out 0; have f21 := blk_frozen BN.out 1; clear s1 s2 s3 hb hp1) | (go_at_call_of 43 b; refine (IH2.out _).mono ?_; rintro e w2 ⟨f2, A2, n2, m2, rfl, hp2, hb⟩; have BR2 := aM (blk_below (kA BR.out (.cells #[.int .u8 f1, .slice A1 n1 m1] 49)) hb); have BN2 := aM (blk_below (kA BN.out (.cells #[.int .u8 f1, .slice A1 n1 m1] 49)) hb); have BT := aM (blk_below (blk_new w1 (.cells #[.int .u8 f1, .slice A1 n1 m1] 49)) hb); have HB2 := aM (below_step (bA HB1.out (.cells #[.int .u8 f1, .slice A1 n1 m1] 49)) hb); have HP2 := aM hp2; have GR := aM hb; have l30 := blk_lt BR2.out; have l31 : w.heap.size < w2.heap.size + 1 := (by omega); have l32 : w.heap.size < w2.heap.size + 1 + 1 := (by omega); have l40 := blk_lt BN2.out; have l41 : w.heap.size + 1 + 1 < w2.heap.size + 1 := (by omega); have l50_ := blk_lt BT.out; have l51_ : w1.heap.size < w2.heap.size + 1 := (by omega); have e30 := blk_cell BR2.out 0; have e31 := blk_cell BR2.out 1; have f30 := blk_frozen BR2.out 0; have f31 := blk_frozen BR2.out 1; have e40 := blk_cell BN2.out 0; have e41 := blk_cell BN2.out 1; have f40 := blk_frozen BN2.out 0; have f41 := blk_frozen BN2.out 1; have e50 := blk_cell BT.out 0; have e51 := blk_cell BT.out 1; have f50 := blk_frozen BT.out 0; have f51 := blk_frozen BT.out 1; clear hb hp2))
  refine bodyPost_ret (results_ct rfl _ _ w.heap.size 49 (#[.int .u8 48, .slice (some ⟨w.heap.size + 1, 0, none⟩) 0 0]) (0, 0) _ rfl ?hg Try.underlying49 rfl (by kernel_rfl)) rfl ?_; (case hg => (repeat (first | with_reducible refine kA ?_ _ | with_reducible refine kD ?_)); with_reducible refine blk_put (cs := #[.int .u8 48, .slice none 0 0]) ?_ 1 _ rfl; with_reducible refine blk_put (cs := #[.int .u8 0, .slice none 0 0]) ?_ 0 _ rfl; (repeat (first | with_reducible refine kA ?_ _ | with_reducible refine kD ?_)); exact BR2.out)
  exact ⟨_, _, _, _, rfl, trivial, by repeat (first | with_reducible exact HB2.out | with_reducible apply bA | with_reducible refine Below.setCell (p := ⟨w.heap.size, 1, none⟩) ?_ (Nat.le_refl _) _ | with_reducible refine Below.setCell (p := ⟨w.heap.size, 0, none⟩) ?_ (Nat.le_refl _) _)⟩
 ·go_enter Try.func43, Try.ntmps43
  go_wp2_with (first | (go_at_call_of 43 a; refine (IH.out _).mono ?_; rintro e w1 ⟨f1, A1, n1, m1, rfl, hp1, hb⟩; obtain ⟨s1, s2, s3⟩ := spec_l7Read.start w; have BR := aM (blk_below s1 hb); have BN := aM (blk_below s2 hb); have HB1 := aM (below_step s3 hb); have HP1 := aM hp1; have l10 := blk_lt BR.out; have l11 : w.heap.size < w1.heap.size + 1 := (by omega); have l12 : w.heap.size < w1.heap.size + 1 + 1 := (by omega); have l20 := blk_lt BN.out; have l21 : w.heap.size + 1 + 1 < w1.heap.size + 1 := (by omega); have e10 := blk_cell BR.out 0; have e11 := blk_cell BR.out 1; have f10 := blk_frozen BR.out 0; have f11 := blk_frozen BR.out 1; have e20 := blk_cell BN.out 0; have e21 := blk_cell BN.out 1; have f20 := blk_frozen BN.out 0; have f21 := blk_frozen BN.out 1; clear s1 s2 s3 hb hp1) | (go_at_call_of 43 b; refine (IH2.out _).mono ?_; rintro e w2 ⟨f2, A2, n2, m2, rfl, hp2, hb⟩; have BR2 := aM (blk_below (kA BR.out (.cells #[.int .u8 f1, .slice A1 n1 m1] 49)) hb); have BN2 := aM (blk_below (kA BN.out (.cells #[.int .u8 f1, .slice A1 n1 m1] 49)) hb); have BT := aM (blk_below (blk_new w1 (.cells #[.int .u8 f1, .slice A1 n1 m1] 49)) hb); have HB2 := aM (below_step (bA HB1.out (.cells #[.int .u8 f1, .slice A1 n1 m1] 49)) hb); have HP2 := aM hp2; have GR := aM hb; have l30 := blk_lt BR2.out; have l31 : w.heap.size < w2.heap.size + 1 := (by omega); have l32 : w.heap.size < w2.heap.size + 1 + 1 := (by omega); have l40 := blk_lt BN2.out; have l41 : w.heap.size + 1 + 1 < w2.heap.size + 1 := (by omega); have l50_ := blk_lt BT.out; have l51_ : w1.heap.size < w2.heap.size + 1 := (by omega); have e30 := blk_cell BR2.out 0; have e31 := blk_cell BR2.out 1; have f30 := blk_frozen BR2.out 0; have f31 := blk_frozen BR2.out 1; have e40 := blk_cell BN2.out 0; have e41 := blk_cell BN2.out 1; have f40 := blk_frozen BN2.out 0; have f41 := blk_frozen BN2.out 1; have e50 := blk_cell BT.out 0; have e51 := blk_cell BT.out 1; have f50 := blk_frozen BT.out 0; have f51 := blk_frozen BT.out 1; clear hb hp2))
  refine bodyPost_ret (results_ct rfl _ _ w.heap.size 49 (#[.int .u8 48, .slice (some ⟨w.heap.size + 1, 0, none⟩) 0 0]) (0, 0) _ rfl ?hg Try.underlying49 rfl (by kernel_rfl)) rfl ?_; (case hg => (repeat (first | with_reducible refine kA ?_ _ | with_reducible refine kD ?_)); with_reducible refine blk_put (cs := #[.int .u8 48, .slice none 0 0]) ?_ 1 _ rfl; with_reducible refine blk_put (cs := #[.int .u8 0, .slice none 0 0]) ?_ 0 _ rfl; (repeat (first | with_reducible refine kA ?_ _ | with_reducible refine kD ?_)); exact BR2.out)
  exact ⟨_, _, _, _, rfl, trivial, by repeat (first | with_reducible exact HB2.out | with_reducible apply bA | with_reducible refine Below.setCell (p := ⟨w.heap.size, 1, none⟩) ?_ (Nat.le_refl _) _ | with_reducible refine Below.setCell (p := ⟨w.heap.size, 0, none⟩) ?_ (Nat.le_refl _) _)⟩
set_option maxHeartbeats 4000000 in
set_option maxRecDepth 100000 in
theorem spec_l7Read.two_yes (s : ByteArray) (p : Nat) (w : World) (h : p < s.size) (hs : s.size ≤ 1000) (hc : bt s p = 40) (m : Nat) (hm : 1 ≤ m) (hm2 : m < s.size) (o : Int) (ho : bt s m = o) (h1 : o = 43 ∨ o = 46 ∨ o = 38) (P : Nat → Nat → World → Int → Option Addr → Nat → Nat → Prop) (ih : ∀ W, Calls Try.prog 43 #[.string s, .int .i64 ((p : Int) + 1)] W (spec_l7Read.Hands P m W)) (q : Nat) (hq : 1 ≤ q) (hq2 : q < s.size) (hc2 : bt s q = 41) (Q : Nat → Nat → World → Int → Option Addr → Nat → Nat → Prop) (ih2 : ∀ W, Calls Try.prog 43 #[.string s, .int .i64 ((m : Int) + 1)] W (spec_l7Read.Hands Q q W)) (hP : ∀ lo hi W W' f A n m, P lo hi W f A n m → (∀ i, lo ≤ i → i < hi → W'.heap[i]? = W.heap[i]?) → P lo hi W' f A n m) (hQ : ∀ lo hi W W' f A n m, Q lo hi W f A n m → (∀ i, lo ≤ i → i < hi → W'.heap[i]? = W.heap[i]?) → Q lo hi W' f A n m)  :
  Calls Try.prog 43 #[.string s, .int .i64 p] w (spec_l7Read.Hands (fun lo hi W f A n m => ∃ g f1 A1 n1 m1 lo1 hi1 f2 A2 n2 m2 lo2 hi2, f = o ∧ A = some ⟨g, 0, none⟩ ∧ n = 2 ∧ 2 ≤ m ∧ lo ≤ g ∧ g < hi ∧ lo ≤ lo1 ∧ hi1 ≤ hi ∧ lo ≤ lo2 ∧ hi2 ≤ hi ∧ W.heap[g]? = some (.cells #[.int .u8 f1, .slice A1 n1 m1, .int .u8 f2, .slice A2 n2 m2] 49 (0, 0)) ∧ P lo1 hi1 W f1 A1 n1 m1 ∧ Q lo2 hi2 W f2 A2 n2 m2) ((q : Int) + 1) w) := by
 have hl : ¬ (s.size : Int) ≤ (p : Int) := by omega
 have hl2 : decide ((s.size : Int) ≤ (p : Int)) = false := decide_eq_false hl
 have hx : ∀ h : p < s.size, ((s[p]'h).toNat : Int) = 40 := fun h' => by rw [← hc]; exact bt_at s (p : Int) h'
 have hrg := bt_range s (p : Int)
 obtain ⟨a, ha⟩ : ∃ a : Int, a = (p : Int) + 1 := ⟨_, rfl⟩
 have hw : wrap64 ((p : Int) + 1) = a := by rw [ha]; unfold wrap64; omega
 rw [← ha] at ih
 have ha2 : (p : Int) + 1 = a := ha.symm
 clear ha
 have IH := aM ih
 clear ih hc hrg
 have z0 : ((m : Int) == 0) = false := beq_eq_false_iff_ne.mpr (by omega)
 have z1 : ¬ (m : Int) = 0 := by omega
 have zl : ¬ (s.size : Int) ≤ (m : Int) := by omega
 have zl2 : decide ((s.size : Int) ≤ (m : Int)) = false := decide_eq_false zl
 have hy : ∀ h : m < s.size, ((s[m]'h).toNat : Int) = o := fun h' => by rw [← ho]; exact bt_at s (m : Int) h'
 obtain ⟨b, hb⟩ : ∃ b : Int, b = (m : Int) + 1 := ⟨_, rfl⟩
 have hw2 : wrap64 ((m : Int) + 1) = b := by rw [hb]; unfold wrap64; omega
 rw [← hb] at ih2
 have hb2 : (m : Int) + 1 = b := hb.symm
 clear hb
 have IH2 := aM ih2
 clear ih2 ho
 have y0 : ((q : Int) == 0) = false := beq_eq_false_iff_ne.mpr (by omega)
 have y1 : ¬ (q : Int) = 0 := by omega
 have yl : ¬ (s.size : Int) ≤ (q : Int) := by omega
 have yl2 : decide ((s.size : Int) ≤ (q : Int)) = false := decide_eq_false yl
 have hz : ∀ h : q < s.size, ((s[q]'h).toNat : Int) = 41 := fun h' => by rw [← hc2]; exact bt_at s (q : Int) h'
 have hw3 : wrap64 ((q : Int) + 1) = ((q + 1 : Nat) : Int) := by unfold wrap64; omega
 clear hc2
 rcases h1 with rfl | rfl | rfl
 ·go_enter Try.func43, Try.ntmps43
  go_wp2_with (first | (go_at_call_of 43 a; refine (IH.out _).mono ?_; rintro e w1 ⟨f1, A1, n1, m1, rfl, hp1, hb⟩; obtain ⟨s1, s2, s3⟩ := spec_l7Read.start w; have BR := aM (blk_below s1 hb); have BN := aM (blk_below s2 hb); have HB1 := aM (below_step s3 hb); have HP1 := aM hp1; have l10 := blk_lt BR.out; have l11 : w.heap.size < w1.heap.size + 1 := (by omega); have l12 : w.heap.size < w1.heap.size + 1 + 1 := (by omega); have l20 := blk_lt BN.out; have l21 : w.heap.size + 1 + 1 < w1.heap.size + 1 := (by omega); have e10 := blk_cell BR.out 0; have e11 := blk_cell BR.out 1; have f10 := blk_frozen BR.out 0; have f11 := blk_frozen BR.out 1; have e20 := blk_cell BN.out 0; have e21 := blk_cell BN.out 1; have f20 := blk_frozen BN.out 0; have f21 := blk_frozen BN.out 1; clear s1 s2 s3 hb hp1) | (go_at_call_of 43 b; refine (IH2.out _).mono ?_; rintro e w2 ⟨f2, A2, n2, m2, rfl, hp2, hb⟩; have BR2 := aM (blk_below (kA BR.out (.cells #[.int .u8 f1, .slice A1 n1 m1] 49)) hb); have BN2 := aM (blk_below (kA BN.out (.cells #[.int .u8 f1, .slice A1 n1 m1] 49)) hb); have BT := aM (blk_below (blk_new w1 (.cells #[.int .u8 f1, .slice A1 n1 m1] 49)) hb); have HB2 := aM (below_step (bA HB1.out (.cells #[.int .u8 f1, .slice A1 n1 m1] 49)) hb); have HP2 := aM hp2; have GR := aM hb; have l30 := blk_lt BR2.out; have l31 : w.heap.size < w2.heap.size + 1 := (by omega); have l32 : w.heap.size < w2.heap.size + 1 + 1 := (by omega); have l40 := blk_lt BN2.out; have l41 : w.heap.size + 1 + 1 < w2.heap.size + 1 := (by omega); have l50_ := blk_lt BT.out; have l51_ : w1.heap.size < w2.heap.size + 1 := (by omega); have e30 := blk_cell BR2.out 0; have e31 := blk_cell BR2.out 1; have f30 := blk_frozen BR2.out 0; have f31 := blk_frozen BR2.out 1; have e40 := blk_cell BN2.out 0; have e41 := blk_cell BN2.out 1; have f40 := blk_frozen BN2.out 0; have f41 := blk_frozen BN2.out 1; have e50 := blk_cell BT.out 0; have e51 := blk_cell BT.out 1; have f50 := blk_frozen BT.out 0; have f51 := blk_frozen BT.out 1; clear hb hp2))
  go_region
  try go_wp2
  refine bodyPost_ret (results_ct rfl _ _ w.heap.size 49 (#[.int .u8 43, .slice (some ⟨w2.heap.size + 1, 0, none⟩) 2 2]) (0, 0) _ rfl ?hg Try.underlying49 rfl (by kernel_rfl)) rfl ?_; (case hg => (repeat (first | with_reducible refine kA ?_ _ | with_reducible refine kD ?_)); refine blk_put (cs := #[.int .u8 43, .slice none 0 0]) ?_ 1 _ rfl; refine blk_put (cs := #[.int .u8 0, .slice none 0 0]) ?_ 0 _ rfl; exact BR2.out)
  have lo0 : (((w.alloc (.cells #[.int .u8 0, .slice none 0 0] 49)).alloc (.cells #[] 49)).alloc (.cells #[.int .u8 48, .slice (some ⟨w.heap.size + 1, 0, none⟩) 0 0] 49)).heap.size = w.heap.size + 1 + 1 + 1 := by rw [World.size_alloc, World.size_alloc, World.size_alloc]
  have lo1 : (w1.alloc (.cells #[.int .u8 f1, .slice A1 n1 m1] 49)).heap.size = w1.heap.size + 1 := World.size_alloc ..
  have g1 := HB1.out.size
  have hsz : (((((w2.setCell ⟨w.heap.size, 0, none⟩ (.int .u8 43)).setCell ⟨w.heap.size, 1, none⟩ (.slice (some ⟨w2.heap.size + 1, 0, none⟩) 2 2)).alloc (.cells #[.int .u8 f2, .slice A2 n2 m2] 49)).alloc (.cells #[.int .u8 f1, .slice A1 n1 m1, .int .u8 f2, .slice A2 n2 m2] 49)).drew).heap.size = w2.heap.size + 1 + 1 := by show (World.alloc _ _).heap.size = _; rw [World.size_alloc, World.size_alloc]; simp [World.setCell]
  have far : ∀ i, w.heap.size + 1 ≤ i → i < w2.heap.size → (((((w2.setCell ⟨w.heap.size, 0, none⟩ (.int .u8 43)).setCell ⟨w.heap.size, 1, none⟩ (.slice (some ⟨w2.heap.size + 1, 0, none⟩) 2 2)).alloc (.cells #[.int .u8 f2, .slice A2 n2 m2] 49)).alloc (.cells #[.int .u8 f1, .slice A1 n1 m1, .int .u8 f2, .slice A2 n2 m2] 49)).drew).heap[i]? = w2.heap[i]? := fun i h1 h2 => by show (World.alloc _ _).heap[i]? = _; rw [Below.heap_alloc _ _ _ (by rw [World.size_alloc]; simp [World.setCell]; omega), Below.heap_alloc _ _ _ (by simp [World.setCell]; omega), Below.heap_setCell _ _ _ _ (by show i ≠ w.heap.size; omega), Below.heap_setCell _ _ _ _ (by show i ≠ w.heap.size; omega)]
  have far1 : ∀ i, i < w1.heap.size → w2.heap[i]? = w1.heap[i]? := fun i h1 => (GR.out.block i (by omega)).trans (Below.heap_alloc _ _ _ h1)
  have sz2 := GR.out.size
  exact ⟨_, _, _, _, rfl, ⟨w2.heap.size + 1, f1, A1, n1, m1, _, w1.heap.size, f2, A2, n2, m2, _, w2.heap.size, rfl, rfl, rfl, Nat.le_refl _, by omega, by rw [hsz]; omega, by rw [lo0]; omega, by rw [hsz]; omega, by rw [lo1]; omega, by rw [hsz]; omega, kD (spec_l7Read.new2 _ _ _ _ (by simp [World.setCell])), hP _ _ _ _ _ _ _ _ HP1.out fun i h1 h2 => (far i (by omega) (by omega)).trans (far1 i h2), hQ _ _ _ _ _ _ _ _ HP2.out fun i h1 h2 => far i (by omega) h2⟩, b1 (bA (bA ((HB2.out.setCell (p := ⟨w.heap.size, 0, none⟩) (Nat.le_refl _) _).setCell (p := ⟨w.heap.size, 1, none⟩) (Nat.le_refl _) _) _) _)⟩
 ·go_enter Try.func43, Try.ntmps43
  go_wp2_with (first | (go_at_call_of 43 a; refine (IH.out _).mono ?_; rintro e w1 ⟨f1, A1, n1, m1, rfl, hp1, hb⟩; obtain ⟨s1, s2, s3⟩ := spec_l7Read.start w; have BR := aM (blk_below s1 hb); have BN := aM (blk_below s2 hb); have HB1 := aM (below_step s3 hb); have HP1 := aM hp1; have l10 := blk_lt BR.out; have l11 : w.heap.size < w1.heap.size + 1 := (by omega); have l12 : w.heap.size < w1.heap.size + 1 + 1 := (by omega); have l20 := blk_lt BN.out; have l21 : w.heap.size + 1 + 1 < w1.heap.size + 1 := (by omega); have e10 := blk_cell BR.out 0; have e11 := blk_cell BR.out 1; have f10 := blk_frozen BR.out 0; have f11 := blk_frozen BR.out 1; have e20 := blk_cell BN.out 0; have e21 := blk_cell BN.out 1; have f20 := blk_frozen BN.out 0; have f21 := blk_frozen BN.out 1; clear s1 s2 s3 hb hp1) | (go_at_call_of 43 b; refine (IH2.out _).mono ?_; rintro e w2 ⟨f2, A2, n2, m2, rfl, hp2, hb⟩; have BR2 := aM (blk_below (kA BR.out (.cells #[.int .u8 f1, .slice A1 n1 m1] 49)) hb); have BN2 := aM (blk_below (kA BN.out (.cells #[.int .u8 f1, .slice A1 n1 m1] 49)) hb); have BT := aM (blk_below (blk_new w1 (.cells #[.int .u8 f1, .slice A1 n1 m1] 49)) hb); have HB2 := aM (below_step (bA HB1.out (.cells #[.int .u8 f1, .slice A1 n1 m1] 49)) hb); have HP2 := aM hp2; have GR := aM hb; have l30 := blk_lt BR2.out; have l31 : w.heap.size < w2.heap.size + 1 := (by omega); have l32 : w.heap.size < w2.heap.size + 1 + 1 := (by omega); have l40 := blk_lt BN2.out; have l41 : w.heap.size + 1 + 1 < w2.heap.size + 1 := (by omega); have l50_ := blk_lt BT.out; have l51_ : w1.heap.size < w2.heap.size + 1 := (by omega); have e30 := blk_cell BR2.out 0; have e31 := blk_cell BR2.out 1; have f30 := blk_frozen BR2.out 0; have f31 := blk_frozen BR2.out 1; have e40 := blk_cell BN2.out 0; have e41 := blk_cell BN2.out 1; have f40 := blk_frozen BN2.out 0; have f41 := blk_frozen BN2.out 1; have e50 := blk_cell BT.out 0; have e51 := blk_cell BT.out 1; have f50 := blk_frozen BT.out 0; have f51 := blk_frozen BT.out 1; clear hb hp2))
  go_region
  try go_wp2
  refine bodyPost_ret (results_ct rfl _ _ w.heap.size 49 (#[.int .u8 46, .slice (some ⟨w2.heap.size + 1, 0, none⟩) 2 2]) (0, 0) _ rfl ?hg Try.underlying49 rfl (by kernel_rfl)) rfl ?_; (case hg => (repeat (first | with_reducible refine kA ?_ _ | with_reducible refine kD ?_)); refine blk_put (cs := #[.int .u8 46, .slice none 0 0]) ?_ 1 _ rfl; refine blk_put (cs := #[.int .u8 0, .slice none 0 0]) ?_ 0 _ rfl; exact BR2.out)
  have lo0 : (((w.alloc (.cells #[.int .u8 0, .slice none 0 0] 49)).alloc (.cells #[] 49)).alloc (.cells #[.int .u8 48, .slice (some ⟨w.heap.size + 1, 0, none⟩) 0 0] 49)).heap.size = w.heap.size + 1 + 1 + 1 := by rw [World.size_alloc, World.size_alloc, World.size_alloc]
  have lo1 : (w1.alloc (.cells #[.int .u8 f1, .slice A1 n1 m1] 49)).heap.size = w1.heap.size + 1 := World.size_alloc ..
  have g1 := HB1.out.size
  have hsz : (((((w2.setCell ⟨w.heap.size, 0, none⟩ (.int .u8 46)).setCell ⟨w.heap.size, 1, none⟩ (.slice (some ⟨w2.heap.size + 1, 0, none⟩) 2 2)).alloc (.cells #[.int .u8 f2, .slice A2 n2 m2] 49)).alloc (.cells #[.int .u8 f1, .slice A1 n1 m1, .int .u8 f2, .slice A2 n2 m2] 49)).drew).heap.size = w2.heap.size + 1 + 1 := by show (World.alloc _ _).heap.size = _; rw [World.size_alloc, World.size_alloc]; simp [World.setCell]
  have far : ∀ i, w.heap.size + 1 ≤ i → i < w2.heap.size → (((((w2.setCell ⟨w.heap.size, 0, none⟩ (.int .u8 46)).setCell ⟨w.heap.size, 1, none⟩ (.slice (some ⟨w2.heap.size + 1, 0, none⟩) 2 2)).alloc (.cells #[.int .u8 f2, .slice A2 n2 m2] 49)).alloc (.cells #[.int .u8 f1, .slice A1 n1 m1, .int .u8 f2, .slice A2 n2 m2] 49)).drew).heap[i]? = w2.heap[i]? := fun i h1 h2 => by show (World.alloc _ _).heap[i]? = _; rw [Below.heap_alloc _ _ _ (by rw [World.size_alloc]; simp [World.setCell]; omega), Below.heap_alloc _ _ _ (by simp [World.setCell]; omega), Below.heap_setCell _ _ _ _ (by show i ≠ w.heap.size; omega), Below.heap_setCell _ _ _ _ (by show i ≠ w.heap.size; omega)]
  have far1 : ∀ i, i < w1.heap.size → w2.heap[i]? = w1.heap[i]? := fun i h1 => (GR.out.block i (by omega)).trans (Below.heap_alloc _ _ _ h1)
  have sz2 := GR.out.size
  exact ⟨_, _, _, _, rfl, ⟨w2.heap.size + 1, f1, A1, n1, m1, _, w1.heap.size, f2, A2, n2, m2, _, w2.heap.size, rfl, rfl, rfl, Nat.le_refl _, by omega, by rw [hsz]; omega, by rw [lo0]; omega, by rw [hsz]; omega, by rw [lo1]; omega, by rw [hsz]; omega, kD (spec_l7Read.new2 _ _ _ _ (by simp [World.setCell])), hP _ _ _ _ _ _ _ _ HP1.out fun i h1 h2 => (far i (by omega) (by omega)).trans (far1 i h2), hQ _ _ _ _ _ _ _ _ HP2.out fun i h1 h2 => far i (by omega) h2⟩, b1 (bA (bA ((HB2.out.setCell (p := ⟨w.heap.size, 0, none⟩) (Nat.le_refl _) _).setCell (p := ⟨w.heap.size, 1, none⟩) (Nat.le_refl _) _) _) _)⟩
 ·go_enter Try.func43, Try.ntmps43
  go_wp2_with (first | (go_at_call_of 43 a; refine (IH.out _).mono ?_; rintro e w1 ⟨f1, A1, n1, m1, rfl, hp1, hb⟩; obtain ⟨s1, s2, s3⟩ := spec_l7Read.start w; have BR := aM (blk_below s1 hb); have BN := aM (blk_below s2 hb); have HB1 := aM (below_step s3 hb); have HP1 := aM hp1; have l10 := blk_lt BR.out; have l11 : w.heap.size < w1.heap.size + 1 := (by omega); have l12 : w.heap.size < w1.heap.size + 1 + 1 := (by omega); have l20 := blk_lt BN.out; have l21 : w.heap.size + 1 + 1 < w1.heap.size + 1 := (by omega); have e10 := blk_cell BR.out 0; have e11 := blk_cell BR.out 1; have f10 := blk_frozen BR.out 0; have f11 := blk_frozen BR.out 1; have e20 := blk_cell BN.out 0; have e21 := blk_cell BN.out 1; have f20 := blk_frozen BN.out 0; have f21 := blk_frozen BN.out 1; clear s1 s2 s3 hb hp1) | (go_at_call_of 43 b; refine (IH2.out _).mono ?_; rintro e w2 ⟨f2, A2, n2, m2, rfl, hp2, hb⟩; have BR2 := aM (blk_below (kA BR.out (.cells #[.int .u8 f1, .slice A1 n1 m1] 49)) hb); have BN2 := aM (blk_below (kA BN.out (.cells #[.int .u8 f1, .slice A1 n1 m1] 49)) hb); have BT := aM (blk_below (blk_new w1 (.cells #[.int .u8 f1, .slice A1 n1 m1] 49)) hb); have HB2 := aM (below_step (bA HB1.out (.cells #[.int .u8 f1, .slice A1 n1 m1] 49)) hb); have HP2 := aM hp2; have GR := aM hb; have l30 := blk_lt BR2.out; have l31 : w.heap.size < w2.heap.size + 1 := (by omega); have l32 : w.heap.size < w2.heap.size + 1 + 1 := (by omega); have l40 := blk_lt BN2.out; have l41 : w.heap.size + 1 + 1 < w2.heap.size + 1 := (by omega); have l50_ := blk_lt BT.out; have l51_ : w1.heap.size < w2.heap.size + 1 := (by omega); have e30 := blk_cell BR2.out 0; have e31 := blk_cell BR2.out 1; have f30 := blk_frozen BR2.out 0; have f31 := blk_frozen BR2.out 1; have e40 := blk_cell BN2.out 0; have e41 := blk_cell BN2.out 1; have f40 := blk_frozen BN2.out 0; have f41 := blk_frozen BN2.out 1; have e50 := blk_cell BT.out 0; have e51 := blk_cell BT.out 1; have f50 := blk_frozen BT.out 0; have f51 := blk_frozen BT.out 1; clear hb hp2))
  go_region
  try go_wp2
  refine bodyPost_ret (results_ct rfl _ _ w.heap.size 49 (#[.int .u8 38, .slice (some ⟨w2.heap.size + 1, 0, none⟩) 2 2]) (0, 0) _ rfl ?hg Try.underlying49 rfl (by kernel_rfl)) rfl ?_; (case hg => (repeat (first | with_reducible refine kA ?_ _ | with_reducible refine kD ?_)); refine blk_put (cs := #[.int .u8 38, .slice none 0 0]) ?_ 1 _ rfl; refine blk_put (cs := #[.int .u8 0, .slice none 0 0]) ?_ 0 _ rfl; exact BR2.out)
  have lo0 : (((w.alloc (.cells #[.int .u8 0, .slice none 0 0] 49)).alloc (.cells #[] 49)).alloc (.cells #[.int .u8 48, .slice (some ⟨w.heap.size + 1, 0, none⟩) 0 0] 49)).heap.size = w.heap.size + 1 + 1 + 1 := by rw [World.size_alloc, World.size_alloc, World.size_alloc]
  have lo1 : (w1.alloc (.cells #[.int .u8 f1, .slice A1 n1 m1] 49)).heap.size = w1.heap.size + 1 := World.size_alloc ..
  have g1 := HB1.out.size
  have hsz : (((((w2.setCell ⟨w.heap.size, 0, none⟩ (.int .u8 38)).setCell ⟨w.heap.size, 1, none⟩ (.slice (some ⟨w2.heap.size + 1, 0, none⟩) 2 2)).alloc (.cells #[.int .u8 f2, .slice A2 n2 m2] 49)).alloc (.cells #[.int .u8 f1, .slice A1 n1 m1, .int .u8 f2, .slice A2 n2 m2] 49)).drew).heap.size = w2.heap.size + 1 + 1 := by show (World.alloc _ _).heap.size = _; rw [World.size_alloc, World.size_alloc]; simp [World.setCell]
  have far : ∀ i, w.heap.size + 1 ≤ i → i < w2.heap.size → (((((w2.setCell ⟨w.heap.size, 0, none⟩ (.int .u8 38)).setCell ⟨w.heap.size, 1, none⟩ (.slice (some ⟨w2.heap.size + 1, 0, none⟩) 2 2)).alloc (.cells #[.int .u8 f2, .slice A2 n2 m2] 49)).alloc (.cells #[.int .u8 f1, .slice A1 n1 m1, .int .u8 f2, .slice A2 n2 m2] 49)).drew).heap[i]? = w2.heap[i]? := fun i h1 h2 => by show (World.alloc _ _).heap[i]? = _; rw [Below.heap_alloc _ _ _ (by rw [World.size_alloc]; simp [World.setCell]; omega), Below.heap_alloc _ _ _ (by simp [World.setCell]; omega), Below.heap_setCell _ _ _ _ (by show i ≠ w.heap.size; omega), Below.heap_setCell _ _ _ _ (by show i ≠ w.heap.size; omega)]
  have far1 : ∀ i, i < w1.heap.size → w2.heap[i]? = w1.heap[i]? := fun i h1 => (GR.out.block i (by omega)).trans (Below.heap_alloc _ _ _ h1)
  have sz2 := GR.out.size
  exact ⟨_, _, _, _, rfl, ⟨w2.heap.size + 1, f1, A1, n1, m1, _, w1.heap.size, f2, A2, n2, m2, _, w2.heap.size, rfl, rfl, rfl, Nat.le_refl _, by omega, by rw [hsz]; omega, by rw [lo0]; omega, by rw [hsz]; omega, by rw [lo1]; omega, by rw [hsz]; omega, kD (spec_l7Read.new2 _ _ _ _ (by simp [World.setCell])), hP _ _ _ _ _ _ _ _ HP1.out fun i h1 h2 => (far i (by omega) (by omega)).trans (far1 i h2), hQ _ _ _ _ _ _ _ _ HP2.out fun i h1 h2 => far i (by omega) h2⟩, b1 (bA (bA ((HB2.out.setCell (p := ⟨w.heap.size, 0, none⟩) (Nat.le_refl _) _).setCell (p := ⟨w.heap.size, 1, none⟩) (Nat.le_refl _) _) _) _)⟩
theorem spec_l7Read.ext_size (s : ByteArray) (p : Nat) : (s.extract p s.size).size = s.size - p := by simp
theorem spec_l7Read.ext_next (s : ByteArray) (p : Nat) (h : p < s.size) : (s.extract p s.size).extract 1 (s.extract p s.size).size = s.extract (p + 1) s.size := by
 rw [ByteArray.extract_extract]
 congr 1
 simp; omega
theorem spec_l7Read.ext_bt (s : ByteArray) (p : Nat) (h : p < s.size) : bt (s.extract p s.size) 0 = bt s (p : Int) := by
 have h2 : (0 : Int).toNat < (s.extract p s.size).size := by rw [spec_l7Read.ext_size]; simp; omega
 rw [← bt_at _ 0 h2, ← bt_at s (p : Int) (by simpa using h)]
 congr 2
 rw [ByteArray.getElem_extract]
 simp
/-- The cells say the tree, whatever happens outside of [lo, hi). -/
def spec_l7Read.Is (t : Tm) (lo hi : Nat) (W : World) (f : Int) (A : Option Addr) (n m : Nat) : Prop := f = t.toS.f0 ∧ n = t.toS.f1.length ∧ n ≤ m ∧ ∀ W' : World, (∀ i, lo ≤ i → i < hi → W'.heap[i]? = W.heap[i]?) → k49.C W' A n t.toS.f1
theorem spec_l7Read.Is.move (t : Tm) : ∀ lo hi W W' f A n m, spec_l7Read.Is t lo hi W f A n m → (∀ i, lo ≤ i → i < hi → W'.heap[i]? = W.heap[i]?) → spec_l7Read.Is t lo hi W' f A n m :=
 fun lo hi W W' f A n m h k => ⟨h.1, h.2.1, h.2.2.1, fun W2 h2 => h.2.2.2 W2 fun i a b => (h2 i a b).trans (k i a b)⟩
theorem spec_l7Read.none_of {P : Nat → Nat → World → Int → Option Addr → Nat → Nat → Prop} {z : Int} {w w' : World} {e : Ending} (h : spec_l7Read.Hands P z w e w') : spec_l7Read.Hands (fun _ _ _ _ _ _ _ => True) z w e w' := by
 obtain ⟨f, A, n, m, h1, _, h3⟩ := h
 exact ⟨f, A, n, m, h1, trivial, h3⟩
theorem spec_l7Read.calls (n : Nat) : ∀ (s : ByteArray) (p : Nat) (w : World), p ≤ s.size → s.size - p < n → s.size ≤ 1000 →
  (Tm.parse n (s.extract p s.size) = none → Calls Try.prog 43 #[.string s, .int .i64 p] w (spec_l7Read.Hands (fun _ _ _ _ _ _ _ => True) 0 w)) ∧
  (∀ t r, Tm.parse n (s.extract p s.size) = some (t, r) → ∃ q : Nat, p < q ∧ q ≤ s.size ∧ r = s.extract q s.size ∧ Calls Try.prog 43 #[.string s, .int .i64 p] w (spec_l7Read.Hands (spec_l7Read.Is t) q w)) := by
 induction n with
 | zero => intro s p w _ h; omega
 | succ n ih =>
  intro s p w hp h hs
  by_cases h0 : p < s.size
  case neg =>
   have e0 : (s.extract p s.size).size = 0 := by rw [spec_l7Read.ext_size]; omega
   refine ⟨fun _ => spec_l7Read.past s p w h0, fun t r k => ?_⟩
   unfold Tm.parse at k
   rw [if_pos e0] at k; cases k
  have hne : ¬ (s.extract p s.size).size = 0 := by rw [spec_l7Read.ext_size]; omega
  have hbt := spec_l7Read.ext_bt s p h0
  have hnx := spec_l7Read.ext_next s p h0
  unfold Tm.parse
  rw [if_neg hne, hbt, hnx]
  have i1 := fun W => ih s (p + 1) W (by omega) (by omega) hs
  have cst : ((p + 1 : Nat) : Int) = (p : Int) + 1 := by omega
  by_cases h1 : bt s (p : Int) = 48 ∨ bt s (p : Int) = 49 ∨ bt s (p : Int) = 97
  ·rw [if_pos h1]
   refine ⟨(fun k => by cases k), fun t r k => ?_⟩
   obtain ⟨rfl, rfl⟩ := Prod.mk.inj (Option.some.inj k)
   refine ⟨p + 1, by omega, by omega, rfl, ?_⟩
   rw [cst]
   refine (spec_l7Read.leaf s p w h0 hs _ rfl h1).mono ?_
   rintro e w' ⟨f, A, n, m, k1, ⟨k2, k3⟩, k4⟩
   refine ⟨f, A, n, m, k1, ⟨k2, k3, by omega, fun W' _ => ?_⟩, k4⟩
   subst k3
   exact ⟨rfl, by decide, fun h => absurd h (by decide)⟩
  rw [if_neg h1]
  by_cases h2 : bt s (p : Int) = 42 ∨ (50 ≤ bt s (p : Int) ∧ bt s (p : Int) ≤ 53)
  ·rw [if_pos h2]
   cases hp1 : Tm.parse n (s.extract (p + 1) s.size) with
   | none =>
    refine ⟨fun _ => ?_, fun t r k => by simp at k⟩
    have i2 := fun W => (i1 W).1 hp1
    rw [cst] at i2
    exact (spec_l7Read.un s p w h0 hs _ rfl h2 _ (fun _ _ _ _ _ _ _ _ _ _ => trivial) 0 i2).mono fun e w' h => spec_l7Read.none_of h
   | some x =>
    obtain ⟨a, r⟩ := x
    refine ⟨fun k => by simp at k, fun t r' k => ?_⟩
    simp only [Option.bind_some, Option.some.injEq, Prod.mk.injEq] at k
    obtain ⟨rfl, rfl⟩ := k
    obtain ⟨q, q1, q2, q3, _⟩ := (i1 w).2 a r hp1
    have i2 : ∀ W, Calls Try.prog 43 #[.string s, .int .i64 ((p : Int) + 1)] W (spec_l7Read.Hands (spec_l7Read.Is a) q W) := by
     intro W
     obtain ⟨q', q1', q2', q3', k⟩ := (i1 W).2 a r hp1
     have : q' = q := by
      have e1 := congrArg ByteArray.size (q3'.symm.trans q3)
      rw [spec_l7Read.ext_size, spec_l7Read.ext_size] at e1
      omega
     rw [this, cst] at k
     exact k
    refine ⟨q, by omega, q2, q3, (spec_l7Read.un s p w h0 hs _ rfl h2 _ (spec_l7Read.Is.move a) q i2).mono ?_⟩
    rintro e w' ⟨f, A, n, m, k1, ⟨g, f1, A1, n1, m1, lo1, hi1, rfl, rfl, rfl, hm, g1, g2, g3, g4, g5, rfl, rfl, g6, g7⟩, k4⟩
    refine ⟨_, _, _, _, k1, ⟨rfl, rfl, hm, fun W' hW => ?_⟩, k4⟩
    exact spec_l7Read.row1 ((hW g g1 g2).trans g5) rfl rfl g6 (g7 W' fun i a b => hW i (by omega) (by omega))
  rw [if_neg h2]
  by_cases h3 : bt s (p : Int) = 40
  case neg =>
   rw [if_neg h3]
   exact ⟨fun _ => spec_l7Read.bad s p w h0 hs _ rfl h1 h2 h3, fun t r k => by cases k⟩
  rw [if_pos h3]
  cases hp1 : Tm.parse n (s.extract (p + 1) s.size) with
  | none =>
   refine ⟨fun _ => ?_, fun t r k => by simp at k⟩
   have i2 := fun W => (i1 W).1 hp1
   rw [cst] at i2
   exact spec_l7Read.two_z s p w h0 hs h3 _ i2
  | some x =>
   obtain ⟨a, r⟩ := x
   simp only [Option.bind_some]
   obtain ⟨m, q1, q2, q3, _⟩ := (i1 w).2 a r hp1
   have i2 : ∀ W, Calls Try.prog 43 #[.string s, .int .i64 ((p : Int) + 1)] W (spec_l7Read.Hands (spec_l7Read.Is a) m W) := by
    intro W
    obtain ⟨q', q1', q2', q3', k⟩ := (i1 W).2 a r hp1
    have : q' = m := by
     have e1 := congrArg ByteArray.size (q3'.symm.trans q3)
     rw [spec_l7Read.ext_size, spec_l7Read.ext_size] at e1
     omega
    rw [this, cst] at k
    exact k
   subst q3
   rw [spec_l7Read.ext_size]
   by_cases h4 : m < s.size
   case neg =>
    rw [if_pos (by omega)]
    exact ⟨fun _ => spec_l7Read.two_past s p w h0 hs h3 m (by omega) h4 _ i2, fun t r k => by cases k⟩
   rw [if_neg (by omega), spec_l7Read.ext_bt s m h4]
   by_cases h5 : bt s (m : Int) = 43 ∨ bt s (m : Int) = 46 ∨ bt s (m : Int) = 38
   case neg =>
    rw [if_neg h5]
    exact ⟨fun _ => spec_l7Read.two_sign s p w h0 hs h3 m (by omega) h4 _ rfl h5 _ i2, fun t r k => by cases k⟩
   have hnx2 := spec_l7Read.ext_next s m h4
   rw [spec_l7Read.ext_size] at hnx2
   rw [if_pos h5, hnx2]
   have cst2 : ((m + 1 : Nat) : Int) = (m : Int) + 1 := by omega
   have j1 := fun W => ih s (m + 1) W (by omega) (by omega) hs
   cases hq1 : Tm.parse n (s.extract (m + 1) s.size) with
   | none =>
    refine ⟨fun _ => ?_, fun t r k => by simp at k⟩
    have j2 := fun W => (j1 W).1 hq1
    rw [cst2] at j2
    exact spec_l7Read.two2_z s p w h0 hs h3 m (by omega) h4 _ rfl h5 _ i2 _ j2
   | some y =>
    obtain ⟨b, r2⟩ := y
    simp only [Option.bind_some]
    obtain ⟨q, u1, u2, u3, _⟩ := (j1 w).2 b r2 hq1
    have j2 : ∀ W, Calls Try.prog 43 #[.string s, .int .i64 ((m : Int) + 1)] W (spec_l7Read.Hands (spec_l7Read.Is b) q W) := by
     intro W
     obtain ⟨q', q1', q2', q3', k⟩ := (j1 W).2 b r2 hq1
     have : q' = q := by
      have e1 := congrArg ByteArray.size (q3'.symm.trans u3)
      rw [spec_l7Read.ext_size, spec_l7Read.ext_size] at e1
      omega
     rw [this, cst2] at k
     exact k
    subst u3
    rw [spec_l7Read.ext_size]
    by_cases h6 : q < s.size
    case neg =>
     rw [if_pos (by omega)]
     exact ⟨fun _ => spec_l7Read.two2_past s p w h0 hs h3 m (by omega) h4 _ rfl h5 _ i2 q (by omega) h6 _ j2, fun t r k => by cases k⟩
    rw [if_neg (by omega), spec_l7Read.ext_bt s q h6]
    by_cases h7 : bt s (q : Int) = 41
    case neg =>
     rw [if_neg h7]
     exact ⟨fun _ => spec_l7Read.two2_shut s p w h0 hs h3 m (by omega) h4 _ rfl h5 _ i2 q (by omega) h6 _ rfl h7 _ j2, fun t r k => by cases k⟩
    have hnx3 := spec_l7Read.ext_next s q h6
    rw [spec_l7Read.ext_size] at hnx3
    rw [if_pos h7, hnx3]
    refine ⟨(fun k => by cases k), fun t r k => ?_⟩
    obtain ⟨rfl, rfl⟩ := Prod.mk.inj (Option.some.inj k)
    refine ⟨q + 1, by omega, by omega, rfl, ?_⟩
    rw [show ((q + 1 : Nat) : Int) = (q : Int) + 1 by omega]
    refine (spec_l7Read.two_yes s p w h0 hs h3 m (by omega) h4 _ rfl h5 _ i2 q (by omega) h6 h7 _ j2 (spec_l7Read.Is.move a) (spec_l7Read.Is.move b)).mono ?_
    rintro e w' ⟨f, A, n, m', k1, ⟨g, f1, A1, n1, m1, lo1, hi1, f2, A2, n2, m2, lo2, hi2, rfl, rfl, rfl, hm, g1, g2, g3, g4, g5, g6, g7, ⟨rfl, rfl, a3, a4⟩, ⟨rfl, rfl, b3, b4⟩⟩, k4⟩
    refine ⟨_, _, _, _, k1, ⟨rfl, rfl, hm, fun W' hW => ?_⟩, k4⟩
    exact spec_l7Read.row2 ((hW g g1 g2).trans g7) rfl rfl rfl rfl a3 b3 (a4 W' fun i a b => hW i (by omega) (by omega)) (b4 W' fun i a b => hW i (by omega) (by omega))

/-- What the function hands back (the term is that of impl_termOf.calls). -/
def spec_l7Of.Res (w : World) : Option Tm → Ending → World → Prop
 | none, e, w' => ∃ f A n m, e = .returned (.tuple #[.agg #[.int .u8 f, .slice A n m], .bool false]) ∧ Below w.heap.size w w'
 | some t, e, w' => ∃ A m, e = .returned (.tuple #[.agg #[.int .u8 t.toS.f0, .slice A t.toS.f1.length m], .bool true]) ∧ t.toS.f1.length ≤ m ∧ k49.C w' A t.toS.f1.length t.toS.f1 ∧ Below w.heap.size w w'
set_option maxHeartbeats 4000000 in
set_option maxRecDepth 100000 in
theorem spec_l7Of.long (s : ByteArray) (w : World) (h : ¬ s.size ≤ 60) :
  Calls Try.prog 28 #[.string s] w (spec_l7Of.Res w none) := by
 have hl : (60 : Int) < (s.size : Int) := by omega
 have hl2 : decide ((60 : Int) < (s.size : Int)) = true := decide_eq_true hl
 go_enter Try.func28, Try.ntmps28
 go_wp2
 refine bodyPost_ret (results_ct rfl _ _ w.heap.size 49 (#[.int .u8 48, .slice (some ⟨w.heap.size + 1, 0, none⟩) 0 0]) (0, 0) _ rfl ?hg Try.underlying49 rfl (by kernel_rfl)) rfl ?_; (case hg => repeat (first | with_reducible exact blk_new _ _ | with_reducible refine kA ?_ _))
 exact ⟨_, _, _, _, rfl, by repeat (first | with_reducible exact Below.refl _ _ | with_reducible apply bA)⟩
set_option maxHeartbeats 4000000 in
set_option maxRecDepth 100000 in
theorem spec_l7Of.no (s : ByteArray) (w : World) (h : s.size ≤ 60) (P : Nat → Nat → World → Int → Option Addr → Nat → Nat → Prop) (ih : ∀ W, Calls Try.prog 43 #[.string s, .int .i64 0] W (spec_l7Read.Hands P 0 W)) :
  Calls Try.prog 28 #[.string s] w (spec_l7Of.Res w none) := by
 have hl : ¬ (60 : Int) < (s.size : Int) := by omega
 have hl2 : decide ((60 : Int) < (s.size : Int)) = false := decide_eq_false hl
 have IH := aM ih
 clear ih
 go_enter Try.func28, Try.ntmps28
 go_wp2_with (go_at_call 43; refine (IH.out _).mono ?_; rintro e w1 ⟨f1, A1, n1, m1, rfl, hp1, hb⟩; obtain ⟨s1, s2, s3⟩ := spec_l7Read.start w; have BR := aM (blk_below s1 hb); have BN := aM (blk_below s2 hb); have HB1 := aM (below_step s3 hb); have HP1 := aM hp1; have l10 := blk_lt BR.out; have l11 : w.heap.size < w1.heap.size + 1 := (by omega); have l12 : w.heap.size < w1.heap.size + 1 + 1 := (by omega); have l20 := blk_lt BN.out; have l21 : w.heap.size + 1 + 1 < w1.heap.size + 1 := (by omega); have e10 := blk_cell BR.out 0; have e11 := blk_cell BR.out 1; have f10 := blk_frozen BR.out 0; have f11 := blk_frozen BR.out 1; have e20 := blk_cell BN.out 0; have e21 := blk_cell BN.out 1; have f20 := blk_frozen BN.out 0; have f21 := blk_frozen BN.out 1; clear s1 s2 s3 hb hp1)
 refine bodyPost_ret (results_ct rfl _ _ w.heap.size 49 (#[.int .u8 48, .slice (some ⟨w.heap.size + 1, 0, none⟩) 0 0]) (0, 0) _ rfl ?hg Try.underlying49 rfl (by kernel_rfl)) rfl ?_; (case hg => (repeat (with_reducible refine kA ?_ _)); refine blk_put (cs := #[.int .u8 48, .slice none 0 0]) ?_ 1 _ rfl; refine blk_put (cs := #[.int .u8 0, .slice none 0 0]) ?_ 0 _ rfl; (repeat (fail)); exact BR.out)
 exact ⟨_, _, _, _, rfl, by repeat (first | with_reducible exact HB1.out | with_reducible apply bA | with_reducible refine Below.setCell (p := ⟨w.heap.size, 1, none⟩) ?_ (Nat.le_refl _) _ | with_reducible refine Below.setCell (p := ⟨w.heap.size, 0, none⟩) ?_ (Nat.le_refl _) _)⟩
set_option maxHeartbeats 4000000 in
set_option maxRecDepth 100000 in
theorem spec_l7Of.rest (s : ByteArray) (w : World) (h : s.size ≤ 60) (q : Nat) (hq : 1 ≤ q) (hq2 : ¬ q = s.size) (P : Nat → Nat → World → Int → Option Addr → Nat → Nat → Prop) (ih : ∀ W, Calls Try.prog 43 #[.string s, .int .i64 0] W (spec_l7Read.Hands P q W)) :
  Calls Try.prog 28 #[.string s] w (spec_l7Of.Res w none) := by
 have hl : ¬ (60 : Int) < (s.size : Int) := by omega
 have hl2 : decide ((60 : Int) < (s.size : Int)) = false := decide_eq_false hl
 have IH := aM ih
 clear ih
 have z0 : ((q : Int) == 0) = false := beq_eq_false_iff_ne.mpr (by omega)
 have z1 : ¬ (q : Int) = 0 := by omega
 have zl : ((q : Int) != (s.size : Int)) = true := bne_iff_ne.mpr (by omega)
 have zl2 : ¬ (q : Int) = (s.size : Int) := by omega
 go_enter Try.func28, Try.ntmps28
 go_wp2_with (go_at_call 43; refine (IH.out _).mono ?_; rintro e w1 ⟨f1, A1, n1, m1, rfl, hp1, hb⟩; obtain ⟨s1, s2, s3⟩ := spec_l7Read.start w; have BR := aM (blk_below s1 hb); have BN := aM (blk_below s2 hb); have HB1 := aM (below_step s3 hb); have HP1 := aM hp1; have l10 := blk_lt BR.out; have l11 : w.heap.size < w1.heap.size + 1 := (by omega); have l12 : w.heap.size < w1.heap.size + 1 + 1 := (by omega); have l20 := blk_lt BN.out; have l21 : w.heap.size + 1 + 1 < w1.heap.size + 1 := (by omega); have e10 := blk_cell BR.out 0; have e11 := blk_cell BR.out 1; have f10 := blk_frozen BR.out 0; have f11 := blk_frozen BR.out 1; have e20 := blk_cell BN.out 0; have e21 := blk_cell BN.out 1; have f20 := blk_frozen BN.out 0; have f21 := blk_frozen BN.out 1; clear s1 s2 s3 hb hp1)
 refine bodyPost_ret (results_ct rfl _ _ w.heap.size 49 (#[.int .u8 48, .slice (some ⟨w.heap.size + 1, 0, none⟩) 0 0]) (0, 0) _ rfl ?hg Try.underlying49 rfl (by kernel_rfl)) rfl ?_; (case hg => (repeat (with_reducible refine kA ?_ _)); refine blk_put (cs := #[.int .u8 48, .slice none 0 0]) ?_ 1 _ rfl; refine blk_put (cs := #[.int .u8 0, .slice none 0 0]) ?_ 0 _ rfl; (repeat (fail)); exact BR.out)
 exact ⟨_, _, _, _, rfl, by repeat (first | with_reducible exact HB1.out | with_reducible apply bA | with_reducible refine Below.setCell (p := ⟨w.heap.size, 1, none⟩) ?_ (Nat.le_refl _) _ | with_reducible refine Below.setCell (p := ⟨w.heap.size, 0, none⟩) ?_ (Nat.le_refl _) _)⟩
set_option maxHeartbeats 4000000 in
set_option maxRecDepth 100000 in
theorem spec_l7Of.yes (s : ByteArray) (w : World) (h : s.size ≤ 60) (q : Nat) (hq : 1 ≤ q) (hq2 : q = s.size) (t : Tm) (ih : ∀ W, Calls Try.prog 43 #[.string s, .int .i64 0] W (spec_l7Read.Hands (spec_l7Read.Is t) q W)) :
  Calls Try.prog 28 #[.string s] w (spec_l7Of.Res w (some t)) := by
 have hl : ¬ (60 : Int) < (s.size : Int) := by omega
 have hl2 : decide ((60 : Int) < (s.size : Int)) = false := decide_eq_false hl
 have IH := aM ih
 clear ih
 have z0 : ((q : Int) == 0) = false := beq_eq_false_iff_ne.mpr (by omega)
 have z1 : ¬ (q : Int) = 0 := by omega
 have zl : ((q : Int) != (s.size : Int)) = false := bne_eq_false_iff_eq.mpr (by omega)
 have zl2 : (q : Int) = (s.size : Int) := by omega
 have zl3 : ((s.size : Int) == 0) = false := by rw [← zl2]; exact z0
 have zl4 : ¬ (s.size : Int) = 0 := by omega
 go_enter Try.func28, Try.ntmps28
 go_wp2_with (go_at_call 43; refine (IH.out _).mono ?_; rintro e w1 ⟨f1, A1, n1, m1, rfl, hp1, hb⟩; obtain ⟨s1, s2, s3⟩ := spec_l7Read.start w; have BR := aM (blk_below s1 hb); have BN := aM (blk_below s2 hb); have HB1 := aM (below_step s3 hb); have HP1 := aM hp1; have l10 := blk_lt BR.out; have l11 : w.heap.size < w1.heap.size + 1 := (by omega); have l12 : w.heap.size < w1.heap.size + 1 + 1 := (by omega); have l20 := blk_lt BN.out; have l21 : w.heap.size + 1 + 1 < w1.heap.size + 1 := (by omega); have e10 := blk_cell BR.out 0; have e11 := blk_cell BR.out 1; have f10 := blk_frozen BR.out 0; have f11 := blk_frozen BR.out 1; have e20 := blk_cell BN.out 0; have e21 := blk_cell BN.out 1; have f20 := blk_frozen BN.out 0; have f21 := blk_frozen BN.out 1; clear s1 s2 s3 hb hp1)
 refine bodyPost_ret (results_ct rfl _ _ w.heap.size 49 (#[.int .u8 f1, .slice A1 n1 m1]) (0, 0) _ rfl ?hg Try.underlying49 rfl (by kernel_rfl)) rfl ?_; (case hg => (repeat (with_reducible refine kA ?_ _)); refine blk_put (cs := #[.int .u8 f1, .slice none 0 0]) ?_ 1 _ rfl; refine blk_put (cs := #[.int .u8 0, .slice none 0 0]) ?_ 0 _ rfl; (repeat (fail)); exact BR.out)
 obtain ⟨rfl, rfl, p3, p4⟩ := HP1.out
 have lo0 : (((w.alloc (.cells #[.int .u8 0, .slice none 0 0] 49)).alloc (.cells #[] 49)).alloc (.cells #[.int .u8 48, .slice (some ⟨w.heap.size + 1, 0, none⟩) 0 0] 49)).heap.size = w.heap.size + 1 + 1 + 1 := by rw [World.size_alloc, World.size_alloc, World.size_alloc]
 refine ⟨_, _, rfl, p3, p4 _ fun i h1 h2 => ?_, by repeat (first | with_reducible exact HB1.out | with_reducible apply bA | with_reducible refine Below.setCell (p := ⟨w.heap.size, 1, none⟩) ?_ (Nat.le_refl _) _ | with_reducible refine Below.setCell (p := ⟨w.heap.size, 0, none⟩) ?_ (Nat.le_refl _) _)⟩
 rw [lo0] at h1
 first | (rw [Below.heap_alloc _ _ _ (by simp [World.setCell]; omega), Below.heap_setCell _ _ _ _ (by show i ≠ w.heap.size; omega), Below.heap_setCell _ _ _ _ (by show i ≠ w.heap.size; omega)])
theorem spec_l7Of.calls (s : ByteArray) (w : World) : Calls Try.prog 28 #[.string s] w (spec_l7Of.Res w (Tm.of s)) := by
 unfold Tm.of
 by_cases h : s.size ≤ 60
 ·rw [if_pos h]
  have hx : s.extract 0 s.size = s := by simp
  have C := fun W => spec_l7Read.calls 61 s 0 W (by omega) (by omega) (by omega)
  rw [hx] at C
  cases hp : Tm.parse 61 s with
  | none => exact spec_l7Of.no s w h _ (fun W => (C W).1 hp)
  | some x =>
   obtain ⟨t, r⟩ := x
   obtain ⟨q, q1, q2, q3, _⟩ := (C w).2 t r hp
   have i : ∀ W, Calls Try.prog 43 #[.string s, .int .i64 0] W (spec_l7Read.Hands (spec_l7Read.Is t) q W) := by
    intro W
    obtain ⟨q', q1', q2', q3', k⟩ := (C W).2 t r hp
    have : q' = q := by
     have e1 := congrArg ByteArray.size (q3'.symm.trans q3)
     rw [spec_l7Read.ext_size, spec_l7Read.ext_size] at e1
     omega
    rw [this] at k
    exact k
   simp only [Option.bind_some]
   by_cases hr : r.size = 0
   ·rw [if_pos hr]
    exact spec_l7Of.yes s w h q (by omega) (by rw [q3, spec_l7Read.ext_size] at hr; omega) t i
   ·rw [if_neg hr]
    exact spec_l7Of.rest s w h q (by omega) (by rw [q3, spec_l7Read.ext_size] at hr; omega) _ i
 ·rw [if_neg h]; exact spec_l7Of.long s w h

def spec_l1Signs.l0 : Nat → ByteArray → List Bool → Int → Option (List Bool × Bool)
 | 0, _, _, _ => none
 | k + 1, x0, x4, x5 => if x5 < (x0.size : Int) then (if 0 ≤ x5 then (if (bt x0 x5) = 48 then (if x4.length < 140737488355328 then (spec_l1Signs.l0 k x0 (x4 ++ [((bt x0 x5) == 49)]) (wrap64 (x5 + 1))) else (none)) else (if (bt x0 x5) = 49 then (if x4.length < 140737488355328 then (spec_l1Signs.l0 k x0 (x4 ++ [true]) (wrap64 (x5 + 1))) else (none)) else (some ((([] : List Bool)), false)))) else (none)) else (some (x4, true))
def spec_l1Signs.f (k : Nat) (a0 : ByteArray) : Option (List Bool × Bool) := spec_l1Signs.l0 k a0 (([] : List Bool)) 0
theorem spec_l1Signs.mono_l : ∀ k, (∀ y0 y1 y2, LeO (spec_l1Signs.l0 k y0 y1 y2) (spec_l1Signs.l0 (k + 1) y0 y1 y2))
 | 0 => fun _ _ _ r h => by simp [spec_l1Signs.l0] at h
 | k + 1 => by
  have ih0 := spec_l1Signs.mono_l k
  ·intro y0 y1 y2
   unfold spec_l1Signs.l0
   repeat' first | (with_reducible exact ih0 _ _ _) | (with_reducible exact LeO.refl _) | (with_reducible refine LeO.ite ?_ ?_)
theorem spec_l1Signs.mono : ∀ a0 k, LeO (spec_l1Signs.f k a0) (spec_l1Signs.f (k + 1) a0) := by
 intro a0 k
 have ih0 := spec_l1Signs.mono_l k
 unfold spec_l1Signs.f
 repeat' (with_reducible exact ih0 _ _ _)
set_option maxHeartbeats 8000000 in
set_option maxRecDepth 100000 in
theorem spec_l1Signs.calls (k : Nat) (a0 : ByteArray) (r1 : List Bool) (r2 : Bool) (w : World) (h : spec_l1Signs.f k a0 = some (r1, r2)) :
  Calls Try.prog 104 #[.string a0] w fun e w' => ∃ v0_ : Value, e = .returned (.tuple #[v0_, .bool r2]) ∧ Kd.R Kd.bool 4 w' w.heap.size (fun _ => True) v0_ r1 ∧ Below w.heap.size w w' := by
 have HB := aM (Below.refl w.heap.size w)
 have H : (spec_l1Signs.l0 k a0 (([] : List Bool)) 0) = some (r1, r2) := h
 clear h
 obtain ⟨y379, hy379⟩ : ∃ y_ : List Bool, y_ = (([] : List Bool)) := ⟨_, rfl⟩
 replace H : (spec_l1Signs.l0 k a0 y379 0) = some (r1, r2) := by first | (rw [hy379]; with_reducible exact H)
 have Ny379 := aM hy379
 clear hy379
 have H' := aM H
 clear H
 go_enter Try.func104, Try.ntmps104
 go_wp2_with (first | ((with_reducible refine gate_dst (N := 6) rfl ?_); refine Kd.R_lit Kd.bool _ 4 ?hg (N := 6) ?hd (xs := ([] : List Bool)) (inner := []) (ok := fun _ => True) (okp := fun _ => True) ?hr ?hp (fun _ hk => hk) trivial (Below.refl _ _) (Nat.le_refl _) (by simp) ?_; (case hd => rfl); (case hg => rfl); (case hr => first | (go_simp; done)); (case hp => exact (Reps.none _ _)); intro v380 w2 ho3 hb hg_ hnew_; clear hg_ hnew_; (rw [← Ny379.out] at ho3); have HO381 := aM (Kd.R_lower ho3 (below_size HB.out)); replace HB := aM (below_step HB.out hb); clear hb ho3))
 go_loopg [4, 5] k (fun kq v4 v5 w' => ∃ (x4_1 : List Bool) (x5_1 : Int), v5 = .int .i64 x5_1 ∧ Aside0 (spec_l1Signs.l0 kq a0 x4_1 x5_1 = some (r1, r2)) ∧ Aside0 (kq ≤ k) ∧ Aside0 (Kd.R Kd.bool 4 w' w.heap.size (fun _ => True) v4 x4_1) ∧ Aside0 (Below w.heap.size w w'))
 case atStart => exact ⟨(y379), (0), (by rfl), H', ⟨Nat.le_refl _⟩, ⟨by exact HO381.out⟩, ⟨HB.out⟩⟩
 case round =>
  clear H'
  obtain ⟨x4_1, x5_1, rfl, HA, HK1, HO_4, HB⟩ := hrel
  cases gk with
  | zero => exact absurd HA.out (by simp [spec_l1Signs.l0])
  | succ k1 =>
   have H := HA.out
   clear HA
   simp only [spec_l1Signs.l0] at H
   by_cases c4 : x5_1 < (a0.size : Int)
   ·rw [if_pos c4] at H
    have c4b0 : decide (x5_1 < (a0.size : Int)) = true := decide_eq_true c4
    clear c4
    by_cases c5 : 0 ≤ x5_1
    ·rw [if_pos c5] at H
     have c5b0 : decide (0 ≤ x5_1) = true := decide_eq_true c5
     clear c5
     by_cases c7 : (bt a0 x5_1) = 48
     ·rw [if_pos c7] at H
      have c7b0 : ((bt a0 x5_1) == 48) = true := beq_iff_eq.mpr c7
      have c7b1 : ((bt a0 x5_1) != 48) = false := bne_eq_false_iff_eq.mpr c7
      clear c7
      by_cases c9 : x4_1.length < 140737488355328
      ·rw [if_pos c9] at H
       have LMc9 := aM c9
       clear c9
       obtain ⟨y382, hy382⟩ : ∃ y_ : List Bool, y_ = (x4_1 ++ [((bt a0 x5_1) == 49)]) := ⟨_, rfl⟩
       replace H : (spec_l1Signs.l0 k1 a0 y382 (wrap64 (x5_1 + 1))) = some (r1, r2) := by first | (rw [hy382]; with_reducible exact H)
       have Ny382 := aM hy382
       clear hy382
       have H' := aM H
       clear H
       have p6 : 0 ≤ (x5_1 : Int) := of_decide_eq_true (by (with_reducible assumption))
       have q6 : x5_1 < (a0.size : Int) := of_decide_eq_true (by (with_reducible assumption))
       have hx6 := bt_at a0 x5_1
       replace p6 := eq_true p6
       replace q6 := eq_true q6
       have p8 : 0 ≤ (x5_1 : Int) := of_decide_eq_true (by (with_reducible assumption))
       have q8 : x5_1 < (a0.size : Int) := of_decide_eq_true (by (with_reducible assumption))
       have hx8 := bt_at a0 x5_1
       replace p8 := eq_true p8
       replace q8 := eq_true q8
       go_wp2_with (first | ((with_reducible refine gate_builtin (b := .append) (xs := #[.tmp 24, .tmp 29]) rfl ?_); at_builtin; refine Kd.R_append Kd.bool (w0 := w) w.heap.size rfl (.tmp 24) (.tmp 29) 52 4 (.bool false) 1 rfl Try.underlying52 info4 rfl (by decide) (by omega) u4 x4_1 ((bt a0 x5_1) == 49) [.bool ((bt a0 x5_1) == 49)] (fun _ => True) (fun _ => False) rfl rfl ?aP (fun _ hk => hk.elim) ?aF ?aO ?aB ?aS ?aL ?_; (case aP => exact rfl); (case aB => exact HB.out); (case aF => exact (fun _ _ => trivial)); (case aO => exact HO_4.out); (case aS => exact (below_size HB.out)); (case aL => have := LMc9.out; omega); intro v383 w10 ho hb hg hat; rw [← Ny382.out] at ho; replace HB := aM hb; have HO384 := aM ho; clear HO_4; clear ho hb hg hat))
       go_roundg k1
       case measure => have := HK1.out; omega
       case rel => exact ⟨(y382), (wrap64 (x5_1 + 1)), (by rfl), H', ⟨by have := HK1.out; omega⟩, ⟨by exact HO384.out⟩, ⟨HB.out⟩⟩
      ·rw [if_neg c9] at H
       exact absurd H (by simp)
     ·rw [if_neg c7] at H
      have c7b0 : ((bt a0 x5_1) == 48) = false := beq_eq_false_iff_ne.mpr c7
      have c7b1 : ((bt a0 x5_1) != 48) = true := bne_iff_ne.mpr c7
      by_cases c12 : (bt a0 x5_1) = 49
      ·rw [if_pos c12] at H
       have c12b0 : ((bt a0 x5_1) == 49) = true := beq_iff_eq.mpr c12
       have c12b1 : ((bt a0 x5_1) != 49) = false := bne_eq_false_iff_eq.mpr c12
       clear c12
       by_cases c14 : x4_1.length < 140737488355328
       ·rw [if_pos c14] at H
        have LMc14 := aM c14
        clear c14
        obtain ⟨y385, hy385⟩ : ∃ y_ : List Bool, y_ = (x4_1 ++ [true]) := ⟨_, rfl⟩
        replace H : (spec_l1Signs.l0 k1 a0 y385 (wrap64 (x5_1 + 1))) = some (r1, r2) := by first | (rw [hy385]; with_reducible exact H)
        have Ny385 := aM hy385
        clear hy385
        have H' := aM H
        clear H
        have p6 : 0 ≤ (x5_1 : Int) := of_decide_eq_true (by (with_reducible assumption))
        have q6 : x5_1 < (a0.size : Int) := of_decide_eq_true (by (with_reducible assumption))
        have hx6 := bt_at a0 x5_1
        replace p6 := eq_true p6
        replace q6 := eq_true q6
        have p11 : 0 ≤ (x5_1 : Int) := of_decide_eq_true (by (with_reducible assumption))
        have q11 : x5_1 < (a0.size : Int) := of_decide_eq_true (by (with_reducible assumption))
        have hx11 := bt_at a0 x5_1
        replace p11 := eq_true p11
        replace q11 := eq_true q11
        have p13 : 0 ≤ (x5_1 : Int) := of_decide_eq_true (by (with_reducible assumption))
        have q13 : x5_1 < (a0.size : Int) := of_decide_eq_true (by (with_reducible assumption))
        have hx13 := bt_at a0 x5_1
        replace p13 := eq_true p13
        replace q13 := eq_true q13
        go_wp2_with (first | ((with_reducible refine gate_builtin (b := .append) (xs := #[.tmp 24, .tmp 29]) rfl ?_); at_builtin; refine Kd.R_append Kd.bool (w0 := w) w.heap.size rfl (.tmp 24) (.tmp 29) 52 4 (.bool false) 1 rfl Try.underlying52 info4 rfl (by decide) (by omega) u4 x4_1 true [.bool true] (fun _ => True) (fun _ => False) rfl rfl ?aP (fun _ hk => hk.elim) ?aF ?aO ?aB ?aS ?aL ?_; (case aP => exact rfl); (case aB => exact HB.out); (case aF => exact (fun _ _ => trivial)); (case aO => exact HO_4.out); (case aS => exact (below_size HB.out)); (case aL => have := LMc14.out; omega); intro v386 w15 ho hb hg hat; rw [← Ny385.out] at ho; replace HB := aM hb; have HO387 := aM ho; clear HO_4; clear ho hb hg hat))
        go_roundg k1
        case measure => have := HK1.out; omega
        case rel => exact ⟨(y385), (wrap64 (x5_1 + 1)), (by rfl), H', ⟨by have := HK1.out; omega⟩, ⟨by exact HO387.out⟩, ⟨HB.out⟩⟩
       ·rw [if_neg c14] at H
        exact absurd H (by simp)
      ·rw [if_neg c12] at H
       have c12b0 : ((bt a0 x5_1) == 49) = false := beq_eq_false_iff_ne.mpr c12
       have c12b1 : ((bt a0 x5_1) != 49) = true := bne_iff_ne.mpr c12
       obtain ⟨y388, hy388⟩ : ∃ y_ : List Bool, y_ = (([] : List Bool)) := ⟨_, rfl⟩
       replace H : (some (y388, false)) = some (r1, r2) := by first | (rw [hy388]; with_reducible exact H)
       have Ny388 := aM hy388
       clear hy388
       simp only [Option.some.injEq, Prod.mk.injEq] at H
       obtain ⟨rfl, rfl⟩ := H
       have p6 : 0 ≤ (x5_1 : Int) := of_decide_eq_true (by (with_reducible assumption))
       have q6 : x5_1 < (a0.size : Int) := of_decide_eq_true (by (with_reducible assumption))
       have hx6 := bt_at a0 x5_1
       replace p6 := eq_true p6
       replace q6 := eq_true q6
       have p11 : 0 ≤ (x5_1 : Int) := of_decide_eq_true (by (with_reducible assumption))
       have q11 : x5_1 < (a0.size : Int) := of_decide_eq_true (by (with_reducible assumption))
       have hx11 := bt_at a0 x5_1
       replace p11 := eq_true p11
       replace q11 := eq_true q11
       go_wp2_with (first | ((with_reducible refine gate_dst (N := 23) rfl ?_); refine Kd.R_lit Kd.bool _ 4 ?hg (N := 23) ?hd (xs := ([] : List Bool)) (inner := []) (ok := fun _ => True) (okp := fun _ => True) ?hr ?hp (fun _ hk => hk) trivial (Below.refl _ _) (Nat.le_refl _) (by simp) ?_; (case hd => rfl); (case hg => rfl); (case hr => first | (go_simp; done)); (case hp => exact (Reps.none _ _)); intro v389 w16 ho17 hb hg_ hnew_; clear hg_ hnew_; (rw [← Ny388.out] at ho17); have HO390 := aM (Kd.R_lower (Kd.R_new' ho17 (Kd.R_lt HO_4.out)) (below_size HB.out)); replace HO_4 := aM (Kd.R_elder' HO_4.out (Kd.R_base ho17) hb); replace HB := aM (below_step HB.out hb); clear hb ho17))
       go_ret2
       exact ⟨_, by first | rfl | (simp [*, errW_none, errW_some] <;> rfl), by exact Kd.R_mono HO390.out (fun _ hk => trivial), HB.out⟩
    ·rw [if_neg c5] at H
     exact absurd H (by simp)
   ·rw [if_neg c4] at H
    have c4b0 : decide (x5_1 < (a0.size : Int)) = false := decide_eq_false c4
    clear c4
    simp only [Option.some.injEq, Prod.mk.injEq] at H
    obtain ⟨rfl, rfl⟩ := H
    go_wp2
    go_ret2
    exact ⟨_, by first | rfl | (simp [*, errW_none, errW_some] <;> rfl), by exact HO_4.out, HB.out⟩

end Go.Proofs.Ytedhckahjinieaa.Q
