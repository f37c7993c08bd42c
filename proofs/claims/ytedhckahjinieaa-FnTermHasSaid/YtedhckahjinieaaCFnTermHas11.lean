/- A term has what its set has; no condition beyond the statement's own. -/
import Derived.Test.YtedhckahjinieaaCFnTermHas8
import Derived.Test.YtedhckahjinieaaCFnTermHas10
namespace Go.Proofs.Ytedhckahjinieaa.Q
open Go.RowKit Go.Proofs.YtedhckahjinieaaW.PrintWords Go.Proofs.YtedhckahjinieaaW.PrintLast Go.Proofs.YtedhckahjinieaaW.PrintMore
attribute [local go_sem] max2_int max_two
set_option linter.unusedVariables false
set_option linter.unusedSimpArgs false
/-- The reference's tree of a term (the terms are those of impl_parse.calls). -/
def Tm.toS : Tm → S49
 | .leaf c => ⟨c, []⟩
 | .un c a => ⟨c, [a.toS]⟩
 | .bin c a b => ⟨c, [a.toS, b.toS]⟩
/-- A row of one or two trees, out of its cells. -/
theorem spec_l7Read.row1 {w : World} {h : Nat} {x : S49} {A : Option Addr} {m : Nat} {cs : Array Value} (hb : w.heap[h]? = some (.cells cs 49 (0, 0))) (e0 : cs[0]? = some (.int .u8 x.f0)) (e1 : cs[1]? = some (.slice A x.f1.length m)) (l : x.f1.length ≤ m) (hc : k49.C w A x.f1.length x.f1) : k49.C w (some ⟨h, 0, none⟩) 1 [x] := by
 refine ⟨rfl, by decide, fun _ => ⟨_, rfl, fun j p hj => ?_⟩⟩
 have hk := k49_mk w x l hc
 cases j with
 | zero =>
  obtain rfl : x = p := by simpa using hj
  refine ⟨_, rfl, hk, fun i u hi => ?_⟩
  rw [show (⟨h, 0, none⟩ : Addr).add (0 * k49.sz + i) = ⟨h, i, none⟩ by rw [Nat.zero_mul, Nat.zero_add, add_plain], aA hb]
  match i, hi with
  | 0, hi => rw [e0]; simpa using hi
  | 1, hi => rw [e1]; simpa using hi
  | i + 2, hi => simp at hi
 | succ j => simp at hj
theorem spec_l7Read.row2 {w : World} {h : Nat} {x y : S49} {A B : Option Addr} {m n : Nat} {cs : Array Value} (hb : w.heap[h]? = some (.cells cs 49 (0, 0))) (e0 : cs[0]? = some (.int .u8 x.f0)) (e1 : cs[1]? = some (.slice A x.f1.length m)) (e2 : cs[2]? = some (.int .u8 y.f0)) (e3 : cs[3]? = some (.slice B y.f1.length n)) (l : x.f1.length ≤ m) (l2 : y.f1.length ≤ n) (hc : k49.C w A x.f1.length x.f1) (hc2 : k49.C w B y.f1.length y.f1) : k49.C w (some ⟨h, 0, none⟩) 2 [x, y] := by
 have hsz : k49.sz = 2 := rfl
 refine ⟨rfl, by decide, fun _ => ⟨_, rfl, fun j p hj => ?_⟩⟩
 match j, hj with
 | 0, hj =>
  obtain rfl : x = p := by simpa using hj
  refine ⟨_, rfl, k49_mk w x l hc, fun i u hi => ?_⟩
  rw [show (⟨h, 0, none⟩ : Addr).add (0 * k49.sz + i) = ⟨h, i, none⟩ by rw [Nat.zero_mul, Nat.zero_add, add_plain], aA hb]
  match i, hi with
  | 0, hi => rw [e0]; simpa using hi
  | 1, hi => rw [e1]; simpa using hi
  | i + 2, hi => simp at hi
 | 1, hj =>
  obtain rfl : y = p := by simpa using hj
  refine ⟨_, rfl, k49_mk w y l2 hc2, fun i u hi => ?_⟩
  rw [show (⟨h, 0, none⟩ : Addr).add (1 * k49.sz + i) = ⟨h, 2 + i, none⟩ by rw [Nat.one_mul, hsz, add_plain], aA hb]
  match i, hi with
  | 0, hi => rw [e2]; simpa using hi
  | 1, hi => rw [e3]; simpa using hi
  | i + 2, hi => simp at hi
 | j + 2, hj => simp at hj
/-- What a call hands back: a tree's cells, and the place behind it; P says what is known of the cells. -/
def spec_l7Read.Hands (P : Nat → Nat → World → Int → Option Addr → Nat → Nat → Prop) (z : Int) (w : World) (e : Ending) (w' : World) : Prop := ∃ f A n m, e = .returned (.tuple #[.agg #[.int .u8 f, .slice A n m], .int .i64 z]) ∧ P w.heap.size w'.heap.size w' f A n m ∧ Below w.heap.size w w'
theorem spec_l7Read.new2 (w : World) (a b : Obj) (n : Nat) (hn : n = w.heap.size + 1) : ((w.alloc a).alloc b).heap[n]? = some b := by
 have := blk_new (w.alloc a) b
 rw [bW, ← hn] at this
 exact this
theorem spec_l7Read.start (w : World) : (((w.alloc (.cells #[.int .u8 0, .slice none 0 0] 49)).alloc (.cells #[] 49)).alloc (.cells #[.int .u8 48, .slice (some ⟨w.heap.size + 1, 0, none⟩) 0 0] 49)).heap[w.heap.size]? = some (.cells #[.int .u8 0, .slice none 0 0] 49) ∧ (((w.alloc (.cells #[.int .u8 0, .slice none 0 0] 49)).alloc (.cells #[] 49)).alloc (.cells #[.int .u8 48, .slice (some ⟨w.heap.size + 1, 0, none⟩) 0 0] 49)).heap[w.heap.size + 1 + 1]? = some (.cells #[.int .u8 48, .slice (some ⟨w.heap.size + 1, 0, none⟩) 0 0] 49) ∧ Below w.heap.size w (((w.alloc (.cells #[.int .u8 0, .slice none 0 0] 49)).alloc (.cells #[] 49)).alloc (.cells #[.int .u8 48, .slice (some ⟨w.heap.size + 1, 0, none⟩) 0 0] 49)) := by
 refine ⟨kA (kA (blk_new w _) _) _, ?_, bA (bA (bA (cE _ _) _) _) _⟩
 have := blk_new ((w.alloc (.cells #[.int .u8 0, .slice none 0 0] 49)).alloc (.cells #[] 49)) (.cells #[.int .u8 48, .slice (some ⟨w.heap.size + 1, 0, none⟩) 0 0] 49)
 rw [show ((w.alloc (.cells #[.int .u8 0, .slice none 0 0] 49)).alloc (.cells #[] 49)).heap.size = w.heap.size + 1 + 1 by rw [bW, bW]] at this
 exact this
set_option maxHeartbeats 4000000 in
set_option maxRecDepth 100000 in
theorem spec_l7Read.past (s : ByteArray) (p : Nat) (w : World) (h : ¬ p < s.size) :
  Calls Try.prog 43 #[.string s, .int .i64 p] w (spec_l7Read.Hands (fun _ _ _ _ _ _ _ => True) 0 w) := by
 have hl : (s.size : Int) ≤ (p : Int) := by omega
 have hl2 : decide ((s.size : Int) ≤ (p : Int)) = true := aH hl
 go_enter Try.func43, Try.ntmps43
 go_wp2
 refine cF (cG rfl _ _ w.heap.size 49 (#[.int .u8 48, .slice (some ⟨w.heap.size + 1, 0, none⟩) 0 0]) (0, 0) _ rfl ?hg Try.underlying49 rfl (by kernel_rfl)) rfl ?_; (case hg => repeat (first | with_reducible exact blk_new _ _ | with_reducible refine kA ?_ _))
 exact ⟨_, _, _, _, rfl, trivial, by repeat (first | with_reducible exact cE _ _ | with_reducible apply bA)⟩
set_option maxHeartbeats 4000000 in
set_option maxRecDepth 100000 in
theorem spec_l7Read.leaf (s : ByteArray) (p : Nat) (w : World) (h : p < s.size) (hs : s.size ≤ 1000) (c : Int) (hc : bt s p = c) (h1 : c = 48 ∨ c = 49 ∨ c = 97) :
  Calls Try.prog 43 #[.string s, .int .i64 p] w (spec_l7Read.Hands (fun _ _ _ f _ n _ => f = c ∧ n = 0) ((p : Int) + 1) w) := by
 have hl : ¬ (s.size : Int) ≤ (p : Int) := by omega
 have hl2 : decide ((s.size : Int) ≤ (p : Int)) = false := aK hl
 have hx : ∀ h : p < s.size, ((s[p]'h).toNat : Int) = c := fun h' => by rw [← hc]; exact bt_at s (p : Int) h'
 have hw : wrap64 ((p : Int) + 1) = ((p + 1 : Nat) : Int) := by unfold wrap64; omega
 have hrg := bt_range s (p : Int)
 clear hc hrg
 rcases h1 with rfl | rfl | rfl
 ·go_enter Try.func43, Try.ntmps43
  go_wp2
  refine cF (cG rfl _ _ w.heap.size 49 (#[.int .u8 48, .slice (some ⟨w.heap.size + 1 + 1 + 1, 0, none⟩) 0 0]) (0, 0) _ rfl ?hg Try.underlying49 rfl (by kernel_rfl)) rfl ?_; (case hg => repeat (first | with_reducible exact blk_new _ _ | with_reducible refine kA ?_ _))
  exact ⟨_, _, _, _, rfl, ⟨rfl, rfl⟩, by repeat (first | with_reducible exact cE _ _ | with_reducible apply bA)⟩
 ·go_enter Try.func43, Try.ntmps43
  go_wp2
  refine cF (cG rfl _ _ w.heap.size 49 (#[.int .u8 49, .slice (some ⟨w.heap.size + 1 + 1 + 1, 0, none⟩) 0 0]) (0, 0) _ rfl ?hg Try.underlying49 rfl (by kernel_rfl)) rfl ?_; (case hg => repeat (first | with_reducible exact blk_new _ _ | with_reducible refine kA ?_ _))
  exact ⟨_, _, _, _, rfl, ⟨rfl, rfl⟩, by repeat (first | with_reducible exact cE _ _ | with_reducible apply bA)⟩
 ·go_enter Try.func43, Try.ntmps43
  go_wp2
  refine cF (cG rfl _ _ w.heap.size 49 (#[.int .u8 97, .slice (some ⟨w.heap.size + 1 + 1 + 1, 0, none⟩) 0 0]) (0, 0) _ rfl ?hg Try.underlying49 rfl (by kernel_rfl)) rfl ?_; (case hg => repeat (first | with_reducible exact blk_new _ _ | with_reducible refine kA ?_ _))
  exact ⟨_, _, _, _, rfl, ⟨rfl, rfl⟩, by repeat (first | with_reducible exact cE _ _ | with_reducible apply bA)⟩
set_option maxHeartbeats 4000000 in
set_option maxRecDepth 100000 in
theorem spec_l7Read.bad (s : ByteArray) (p : Nat) (w : World) (h : p < s.size) (hs : s.size ≤ 1000) (c : Int) (hc : bt s p = c) (h1 : ¬ (c = 48 ∨ c = 49 ∨ c = 97)) (h2 : ¬ (c = 42 ∨ (50 ≤ c ∧ c ≤ 53))) (h3 : ¬ c = 40) :
  Calls Try.prog 43 #[.string s, .int .i64 p] w (spec_l7Read.Hands (fun _ _ _ _ _ _ _ => True) 0 w) := by
 have hl : ¬ (s.size : Int) ≤ (p : Int) := by omega
 have hl2 : decide ((s.size : Int) ≤ (p : Int)) = false := aK hl
 have hx : ∀ h : p < s.size, ((s[p]'h).toNat : Int) = c := fun h' => by rw [← hc]; exact bt_at s (p : Int) h'
 have hw : wrap64 ((p : Int) + 1) = ((p + 1 : Nat) : Int) := by unfold wrap64; omega
 have hrg := bt_range s (p : Int)
 have n48 : (c == 48) = false := beq_eq_false_iff_ne.mpr (by omega)
 have n49 : (c == 49) = false := beq_eq_false_iff_ne.mpr (by omega)
 have n97 : (c == 97) = false := beq_eq_false_iff_ne.mpr (by omega)
 have n42 : (c == 42) = false := beq_eq_false_iff_ne.mpr (by omega)
 have n40 : (c == 40) = false := beq_eq_false_iff_ne.mpr (by omega)
 have m40 : (c != 40) = true := bne_iff_ne.mpr (by omega)
 by_cases g50 : 50 ≤ c
 ·have g53 : ¬ c ≤ 53 := by omega
  have l50 : decide (50 ≤ c) = true := aH g50
  have l53 : decide (c ≤ 53) = false := aK g53
  clear hc h1 h2 h3 hrg
  go_enter Try.func43, Try.ntmps43
  go_wp2
  refine cF (cG rfl _ _ w.heap.size 49 (#[.int .u8 48, .slice (some ⟨w.heap.size + 1, 0, none⟩) 0 0]) (0, 0) _ rfl ?hg Try.underlying49 rfl (by kernel_rfl)) rfl ?_; (case hg => repeat (first | with_reducible exact blk_new _ _ | with_reducible refine kA ?_ _))
  exact ⟨_, _, _, _, rfl, trivial, by repeat (first | with_reducible exact cE _ _ | with_reducible apply bA)⟩
 ·have l50 : decide (50 ≤ c) = false := aK g50
  clear hc h1 h2 h3 hrg
  go_enter Try.func43, Try.ntmps43
  go_wp2
  refine cF (cG rfl _ _ w.heap.size 49 (#[.int .u8 48, .slice (some ⟨w.heap.size + 1, 0, none⟩) 0 0]) (0, 0) _ rfl ?hg Try.underlying49 rfl (by kernel_rfl)) rfl ?_; (case hg => repeat (first | with_reducible exact blk_new _ _ | with_reducible refine kA ?_ _))
  exact ⟨_, _, _, _, rfl, trivial, by repeat (first | with_reducible exact cE _ _ | with_reducible apply bA)⟩
set_option maxHeartbeats 4000000 in
set_option maxRecDepth 100000 in
theorem spec_l7Read.un (s : ByteArray) (p : Nat) (w : World) (h : p < s.size) (hs : s.size ≤ 1000) (c : Int) (hc : bt s p = c) (h1 : c = 42 ∨ (50 ≤ c ∧ c ≤ 53)) (P : Nat → Nat → World → Int → Option Addr → Nat → Nat → Prop) (hP : ∀ lo hi W W' f A n m, P lo hi W f A n m → (∀ i, lo ≤ i → i < hi → W'.heap[i]? = W.heap[i]?) → P lo hi W' f A n m) (z : Int) (ih : ∀ W, Calls Try.prog 43 #[.string s, .int .i64 ((p : Int) + 1)] W (spec_l7Read.Hands P z W)) :
  Calls Try.prog 43 #[.string s, .int .i64 p] w (spec_l7Read.Hands (fun lo hi W f A n m => ∃ g f1 A1 n1 m1 lo1 hi1, f = c ∧ A = some ⟨g, 0, none⟩ ∧ n = 1 ∧ 1 ≤ m ∧ lo ≤ g ∧ g < hi ∧ lo ≤ lo1 ∧ hi1 ≤ hi ∧ W.heap[g]? = some (.cells #[.int .u8 f1, .slice A1 n1 m1] 49 (0, 0)) ∧ P lo1 hi1 W f1 A1 n1 m1) z w) := by
 have hl : ¬ (s.size : Int) ≤ (p : Int) := by omega
 have hl2 : decide ((s.size : Int) ≤ (p : Int)) = false := aK hl
 have hx : ∀ h : p < s.size, ((s[p]'h).toNat : Int) = c := fun h' => by rw [← hc]; exact bt_at s (p : Int) h'
 have hw : wrap64 ((p : Int) + 1) = ((p + 1 : Nat) : Int) := by unfold wrap64; omega
 have hrg := bt_range s (p : Int)
 have n48 : (c == 48) = false := beq_eq_false_iff_ne.mpr (by omega)
 have n49 : (c == 49) = false := beq_eq_false_iff_ne.mpr (by omega)
 have n97 : (c == 97) = false := beq_eq_false_iff_ne.mpr (by omega)
 have IH := aM ih
 clear ih
 by_cases g42 : c = 42
 all_goals
  first
  |have n42 : (c == 42) = true := beq_iff_eq.mpr g42
  |have n42 : (c == 42) = false := beq_eq_false_iff_ne.mpr g42
   have l50 : decide (50 ≤ c) = true := aH (by omega)
   have l53 : decide (c ≤ 53) = true := aH (by omega)
   have g50 : 50 ≤ c := by omega
   have g53 : c ≤ 53 := by omega
  clear hc h1 hrg g42
  go_enter Try.func43, Try.ntmps43
  go_wp2_with (go_at_call 43; refine (IH.out _).mono ?_; rintro e w1 ⟨f1, A1, n1, m1, rfl, hp1, hb⟩; obtain ⟨s1, s2, s3⟩ := spec_l7Read.start w; have BR := aM (aD s1 hb); have BN := aM (aD s2 hb); have HB1 := aM (aE s3 hb); have HP1 := aM hp1; have l10 := blk_lt BR.out; have l11 : w.heap.size < w1.heap.size + 1 := (by omega); have l12 : w.heap.size < w1.heap.size + 1 + 1 := (by omega); have l20 := blk_lt BN.out; have l21 : w.heap.size + 1 + 1 < w1.heap.size + 1 := (by omega); have e10 := aA BR.out 0; have e11 := aA BR.out 1; have f10 := aC BR.out 0; have f11 := aC BR.out 1; have e20 := aA BN.out 0; have e21 := aA BN.out 1; have f20 := aC BN.out 0; have f21 := aC BN.out 1; clear s1 s2 s3 hb hp1)
  refine cF (cG rfl _ _ w.heap.size 49 (#[.int .u8 c, .slice (some ⟨w1.heap.size + 1, 0, none⟩) 1 1]) (0, 0) _ rfl ?hg Try.underlying49 rfl (by kernel_rfl)) rfl ?_; (case hg => (repeat (with_reducible refine kA ?_ _)); with_reducible refine bV (cs := #[.int .u8 c, .slice none 0 0]) ?_ 1 _ rfl; with_reducible refine bV (cs := #[.int .u8 0, .slice none 0 0]) ?_ 0 _ rfl; exact BR.out)
  have lo0 : (((w.alloc (.cells #[.int .u8 0, .slice none 0 0] 49)).alloc (.cells #[] 49)).alloc (.cells #[.int .u8 48, .slice (some ⟨w.heap.size + 1, 0, none⟩) 0 0] 49)).heap.size = w.heap.size + 1 + 1 + 1 := by rw [bW, bW, bW]
  have far : ∀ i, w.heap.size + 1 ≤ i → i < w1.heap.size → ((((w1.setCell ⟨w.heap.size, 0, none⟩ (.int .u8 c)).setCell ⟨w.heap.size, 1, none⟩ (.slice (some ⟨w1.heap.size + 1, 0, none⟩) 1 1)).alloc (.cells #[.int .u8 f1, .slice A1 n1 m1] 49)).alloc (.cells #[.int .u8 f1, .slice A1 n1 m1] 49)).heap[i]? = w1.heap[i]? := fun i h1 h2 => by rw [Below.heap_alloc _ _ _ (by rw [bW]; simp [World.setCell]; omega), Below.heap_alloc _ _ _ (by simp [World.setCell]; omega), Below.heap_setCell _ _ _ _ (by show i ≠ w.heap.size; omega), Below.heap_setCell _ _ _ _ (by show i ≠ w.heap.size; omega)]
  exact ⟨_, _, _, _, rfl, ⟨w1.heap.size + 1, f1, A1, n1, m1, _, w1.heap.size, rfl, rfl, rfl, cD _, by omega, by rw [bW, bW]; simp [World.setCell], (by rw [bW, bW, bW]; omega), by rw [bW, bW]; simp [World.setCell]; omega, spec_l7Read.new2 _ _ _ _ (by simp [World.setCell]), hP _ _ _ _ _ _ _ _ HP1.out fun i h1 h2 => far i (by have := lo0; omega) h2⟩, bA (bA ((HB1.out.setCell (p := ⟨w.heap.size, 0, none⟩) (cD _) _).setCell (p := ⟨w.heap.size, 1, none⟩) (cD _) _) _) _⟩
set_option maxHeartbeats 4000000 in
set_option maxRecDepth 100000 in
theorem spec_l7Read.two_z (s : ByteArray) (p : Nat) (w : World) (h : p < s.size) (hs : s.size ≤ 1000) (hc : bt s p = 40) (P : Nat → Nat → World → Int → Option Addr → Nat → Nat → Prop) (ih : ∀ W, Calls Try.prog 43 #[.string s, .int .i64 ((p : Int) + 1)] W (spec_l7Read.Hands P 0 W)) :
  Calls Try.prog 43 #[.string s, .int .i64 p] w (spec_l7Read.Hands (fun _ _ _ _ _ _ _ => True) 0 w) := by
 have hl : ¬ (s.size : Int) ≤ (p : Int) := by omega
 have hl2 : decide ((s.size : Int) ≤ (p : Int)) = false := aK hl
 have hx : ∀ h : p < s.size, ((s[p]'h).toNat : Int) = 40 := fun h' => by rw [← hc]; exact bt_at s (p : Int) h'
 have hrg := bt_range s (p : Int)
 obtain ⟨a, ha⟩ : ∃ a : Int, a = (p : Int) + 1 := ⟨_, rfl⟩
 have hw : wrap64 ((p : Int) + 1) = a := by rw [ha]; unfold wrap64; omega
 rw [← ha] at ih
 have ha2 : (p : Int) + 1 = a := ha.symm
 clear ha
 have IH := aM ih
 clear ih hc hrg
 go_enter Try.func43, Try.ntmps43
 go_wp2_with (go_at_call_of 43 a; refine (IH.out _).mono ?_; rintro e w1 ⟨f1, A1, n1, m1, rfl, hp1, hb⟩; obtain ⟨s1, s2, s3⟩ := spec_l7Read.start w; have BR := aM (aD s1 hb); have BN := aM (aD s2 hb); have HB1 := aM (aE s3 hb); have HP1 := aM hp1; have l10 := blk_lt BR.out; have l11 : w.heap.size < w1.heap.size + 1 := (by omega); have l12 : w.heap.size < w1.heap.size + 1 + 1 := (by omega); have l20 := blk_lt BN.out; have l21 : w.heap.size + 1 + 1 < w1.heap.size + 1 := (by omega); have e10 := aA BR.out 0; have e11 := aA BR.out 1; have f10 := aC BR.out 0; have f11 := aC BR.out 1; have e20 := aA BN.out 0; have e21 := aA BN.out 1; have f20 := aC BN.out 0; have f21 := aC BN.out 1; clear s1 s2 s3 hb hp1)
 refine cF (cG rfl _ _ w.heap.size 49 (#[.int .u8 48, .slice (some ⟨w.heap.size + 1, 0, none⟩) 0 0]) (0, 0) _ rfl ?hg Try.underlying49 rfl (by kernel_rfl)) rfl ?_; (case hg => (repeat (with_reducible refine kA ?_ _)); with_reducible refine bV (cs := #[.int .u8 48, .slice none 0 0]) ?_ 1 _ rfl; with_reducible refine bV (cs := #[.int .u8 0, .slice none 0 0]) ?_ 0 _ rfl; (repeat (fail)); exact BR.out)
 exact ⟨_, _, _, _, rfl, trivial, by repeat (first | with_reducible exact HB1.out | with_reducible apply bA | with_reducible refine Below.setCell (p := ⟨w.heap.size, 1, none⟩) ?_ (cD _) _ | with_reducible refine Below.setCell (p := ⟨w.heap.size, 0, none⟩) ?_ (cD _) _)⟩
set_option maxHeartbeats 4000000 in
set_option maxRecDepth 100000 in
theorem spec_l7Read.two_past (s : ByteArray) (p : Nat) (w : World) (h : p < s.size) (hs : s.size ≤ 1000) (hc : bt s p = 40) (m : Nat) (hm : 1 ≤ m) (hm2 : ¬ m < s.size) (P : Nat → Nat → World → Int → Option Addr → Nat → Nat → Prop) (ih : ∀ W, Calls Try.prog 43 #[.string s, .int .i64 ((p : Int) + 1)] W (spec_l7Read.Hands P m W)) :
  Calls Try.prog 43 #[.string s, .int .i64 p] w (spec_l7Read.Hands (fun _ _ _ _ _ _ _ => True) 0 w) := by
 have hl : ¬ (s.size : Int) ≤ (p : Int) := by omega
 have hl2 : decide ((s.size : Int) ≤ (p : Int)) = false := aK hl
 have hx : ∀ h : p < s.size, ((s[p]'h).toNat : Int) = 40 := fun h' => by rw [← hc]; exact bt_at s (p : Int) h'
 have hrg := bt_range s (p : Int)
 obtain ⟨a, ha⟩ : ∃ a : Int, a = (p : Int) + 1 := ⟨_, rfl⟩
 have hw : wrap64 ((p : Int) + 1) = a := by rw [ha]; unfold wrap64; omega
 rw [← ha] at ih
 have ha2 : (p : Int) + 1 = a := ha.symm
 clear ha
 have IH := aM ih
 clear ih hc hrg
 have z0 : ((m : Int) == 0) = false := beq_eq_false_iff_ne.mpr (by omega)
 have z1 : ¬ (m : Int) = 0 := by omega
 have zl : (s.size : Int) ≤ (m : Int) := by omega
 have zl2 : decide ((s.size : Int) ≤ (m : Int)) = true := aH zl
 go_enter Try.func43, Try.ntmps43
 go_wp2_with (go_at_call_of 43 a; refine (IH.out _).mono ?_; rintro e w1 ⟨f1, A1, n1, m1, rfl, hp1, hb⟩; obtain ⟨s1, s2, s3⟩ := spec_l7Read.start w; have BR := aM (aD s1 hb); have BN := aM (aD s2 hb); have HB1 := aM (aE s3 hb); have HP1 := aM hp1; have l10 := blk_lt BR.out; have l11 : w.heap.size < w1.heap.size + 1 := (by omega); have l12 : w.heap.size < w1.heap.size + 1 + 1 := (by omega); have l20 := blk_lt BN.out; have l21 : w.heap.size + 1 + 1 < w1.heap.size + 1 := (by omega); have e10 := aA BR.out 0; have e11 := aA BR.out 1; have f10 := aC BR.out 0; have f11 := aC BR.out 1; have e20 := aA BN.out 0; have e21 := aA BN.out 1; have f20 := aC BN.out 0; have f21 := aC BN.out 1; clear s1 s2 s3 hb hp1)
 refine cF (cG rfl _ _ w.heap.size 49 (#[.int .u8 48, .slice (some ⟨w.heap.size + 1, 0, none⟩) 0 0]) (0, 0) _ rfl ?hg Try.underlying49 rfl (by kernel_rfl)) rfl ?_; (case hg => (repeat (with_reducible refine kA ?_ _)); with_reducible refine bV (cs := #[.int .u8 48, .slice none 0 0]) ?_ 1 _ rfl; with_reducible refine bV (cs := #[.int .u8 0, .slice none 0 0]) ?_ 0 _ rfl; (repeat (fail)); exact BR.out)
 exact ⟨_, _, _, _, rfl, trivial, by repeat (first | with_reducible exact HB1.out | with_reducible apply bA | with_reducible refine Below.setCell (p := ⟨w.heap.size, 1, none⟩) ?_ (cD _) _ | with_reducible refine Below.setCell (p := ⟨w.heap.size, 0, none⟩) ?_ (cD _) _)⟩
set_option maxHeartbeats 4000000 in
set_option maxRecDepth 100000 in
theorem spec_l7Read.two_sign (s : ByteArray) (p : Nat) (w : World) (h : p < s.size) (hs : s.size ≤ 1000) (hc : bt s p = 40) (m : Nat) (hm : 1 ≤ m) (hm2 : m < s.size) (o : Int) (ho : bt s m = o) (h1 : ¬ (o = 43 ∨ o = 46 ∨ o = 38)) (P : Nat → Nat → World → Int → Option Addr → Nat → Nat → Prop) (ih : ∀ W, Calls Try.prog 43 #[.string s, .int .i64 ((p : Int) + 1)] W (spec_l7Read.Hands P m W)) :
  Calls Try.prog 43 #[.string s, .int .i64 p] w (spec_l7Read.Hands (fun _ _ _ _ _ _ _ => True) 0 w) := by
 have hl : ¬ (s.size : Int) ≤ (p : Int) := by omega
 have hl2 : decide ((s.size : Int) ≤ (p : Int)) = false := aK hl
 have hx : ∀ h : p < s.size, ((s[p]'h).toNat : Int) = 40 := fun h' => by rw [← hc]; exact bt_at s (p : Int) h'
 have hrg := bt_range s (p : Int)
 obtain ⟨a, ha⟩ : ∃ a : Int, a = (p : Int) + 1 := ⟨_, rfl⟩
 have hw : wrap64 ((p : Int) + 1) = a := by rw [ha]; unfold wrap64; omega
 rw [← ha] at ih
 have ha2 : (p : Int) + 1 = a := ha.symm
 clear ha
 have IH := aM ih
 clear ih hc hrg
 have z0 : ((m : Int) == 0) = false := beq_eq_false_iff_ne.mpr (by omega)
 have z1 : ¬ (m : Int) = 0 := by omega
 have zl : ¬ (s.size : Int) ≤ (m : Int) := by omega
 have zl2 : decide ((s.size : Int) ≤ (m : Int)) = false := aK zl
 have hy : ∀ h : m < s.size, ((s[m]'h).toNat : Int) = o := fun h' => by rw [← ho]; exact bt_at s (m : Int) h'
 have q43 : (o != 43) = true := bne_iff_ne.mpr (by omega)
 have q46 : (o != 46) = true := bne_iff_ne.mpr (by omega)
 have q38 : (o != 38) = true := bne_iff_ne.mpr (by omega)
 clear ho h1
 go_enter Try.func43, Try.ntmps43
 go_wp2_with (go_at_call_of 43 a; refine (IH.out _).mono ?_; rintro e w1 ⟨f1, A1, n1, m1, rfl, hp1, hb⟩; obtain ⟨s1, s2, s3⟩ := spec_l7Read.start w; have BR := aM (aD s1 hb); have BN := aM (aD s2 hb); have HB1 := aM (aE s3 hb); have HP1 := aM hp1; have l10 := blk_lt BR.out; have l11 : w.heap.size < w1.heap.size + 1 := (by omega); have l12 : w.heap.size < w1.heap.size + 1 + 1 := (by omega); have l20 := blk_lt BN.out; have l21 : w.heap.size + 1 + 1 < w1.heap.size + 1 := (by omega); have e10 := aA BR.out 0; have e11 := aA BR.out 1; have f10 := aC BR.out 0; have f11 := aC BR.out 1; have e20 := aA BN.out 0; have e21 := aA BN.out 1; have f20 := aC BN.out 0; have f21 := aC BN.out 1; clear s1 s2 s3 hb hp1)
 refine cF (cG rfl _ _ w.heap.size 49 (#[.int .u8 48, .slice (some ⟨w.heap.size + 1, 0, none⟩) 0 0]) (0, 0) _ rfl ?hg Try.underlying49 rfl (by kernel_rfl)) rfl ?_; (case hg => (repeat (with_reducible refine kA ?_ _)); with_reducible refine bV (cs := #[.int .u8 48, .slice none 0 0]) ?_ 1 _ rfl; with_reducible refine bV (cs := #[.int .u8 0, .slice none 0 0]) ?_ 0 _ rfl; (repeat (fail)); exact BR.out)
 exact ⟨_, _, _, _, rfl, trivial, by repeat (first | with_reducible exact HB1.out | with_reducible apply bA | with_reducible refine Below.setCell (p := ⟨w.heap.size, 1, none⟩) ?_ (cD _) _ | with_reducible refine Below.setCell (p := ⟨w.heap.size, 0, none⟩) ?_ (cD _) _)⟩
set_option maxHeartbeats 4000000 in
set_option maxRecDepth 100000 in
theorem spec_l7Read.two2_z (s : ByteArray) (p : Nat) (w : World) (h : p < s.size) (hs : s.size ≤ 1000) (hc : bt s p = 40) (m : Nat) (hm : 1 ≤ m) (hm2 : m < s.size) (o : Int) (ho : bt s m = o) (h1 : o = 43 ∨ o = 46 ∨ o = 38) (P : Nat → Nat → World → Int → Option Addr → Nat → Nat → Prop) (ih : ∀ W, Calls Try.prog 43 #[.string s, .int .i64 ((p : Int) + 1)] W (spec_l7Read.Hands P m W)) (Q : Nat → Nat → World → Int → Option Addr → Nat → Nat → Prop) (ih2 : ∀ W, Calls Try.prog 43 #[.string s, .int .i64 ((m : Int) + 1)] W (spec_l7Read.Hands Q 0 W)) :
  Calls Try.prog 43 #[.string s, .int .i64 p] w (spec_l7Read.Hands (fun _ _ _ _ _ _ _ => True) 0 w) := by
 have hl : ¬ (s.size : Int) ≤ (p : Int) := by omega
 have hl2 : decide ((s.size : Int) ≤ (p : Int)) = false := aK hl
 have hx : ∀ h : p < s.size, ((s[p]'h).toNat : Int) = 40 := fun h' => by rw [← hc]; exact bt_at s (p : Int) h'
 have hrg := bt_range s (p : Int)
 obtain ⟨a, ha⟩ : ∃ a : Int, a = (p : Int) + 1 := ⟨_, rfl⟩
 have hw : wrap64 ((p : Int) + 1) = a := by rw [ha]; unfold wrap64; omega
 rw [← ha] at ih
 have ha2 : (p : Int) + 1 = a := ha.symm
 clear ha
 have IH := aM ih
 clear ih hc hrg
 have z0 : ((m : Int) == 0) = false := beq_eq_false_iff_ne.mpr (by omega)
 have z1 : ¬ (m : Int) = 0 := by omega
 have zl : ¬ (s.size : Int) ≤ (m : Int) := by omega
 have zl2 : decide ((s.size : Int) ≤ (m : Int)) = false := aK zl
 have hy : ∀ h : m < s.size, ((s[m]'h).toNat : Int) = o := fun h' => by rw [← ho]; exact bt_at s (m : Int) h'
 obtain ⟨b, hb⟩ : ∃ b : Int, b = (m : Int) + 1 := ⟨_, rfl⟩
 have hw2 : wrap64 ((m : Int) + 1) = b := by rw [hb]; unfold wrap64; omega
 rw [← hb] at ih2
 have hb2 : (m : Int) + 1 = b := hb.symm
 clear hb
 have IH2 := aM ih2
 clear ih2 ho
 rcases h1 with rfl | rfl | rfl
 all_goals
  go_enter Try.func43, Try.ntmps43
  go_wp2_with (first | (go_at_call_of 43 a; refine (IH.out _).mono ?_; rintro e w1 ⟨f1, A1, n1, m1, rfl, hp1, hb⟩; obtain ⟨s1, s2, s3⟩ := spec_l7Read.start w; have BR := aM (aD s1 hb); have BN := aM (aD s2 hb); have HB1 := aM (aE s3 hb); have HP1 := aM hp1; have l10 := blk_lt BR.out; have l11 : w.heap.size < w1.heap.size + 1 := (by omega); have l12 : w.heap.size < w1.heap.size + 1 + 1 := (by omega); have l20 := blk_lt BN.out; have l21 : w.heap.size + 1 + 1 < w1.heap.size + 1 := (by omega); have e10 := aA BR.out 0; have e11 := aA BR.out 1; have f10 := aC BR.out 0; have f11 := aC BR.out 1; have e20 := aA BN.out 0; have e21 := aA BN.out 1; have f20 := aC BN.out 0; have f21 := aC BN.out 1; clear s1 s2 s3 hb hp1) | (go_at_call_of 43 b; refine (IH2.out _).mono ?_; rintro e w2 ⟨f2, A2, n2, m2, rfl, hp2, hb⟩; have BR2 := aM (aD (kA BR.out (.cells #[.int .u8 f1, .slice A1 n1 m1] 49)) hb); have BN2 := aM (aD (kA BN.out (.cells #[.int .u8 f1, .slice A1 n1 m1] 49)) hb); have BT := aM (aD (blk_new w1 (.cells #[.int .u8 f1, .slice A1 n1 m1] 49)) hb); have HB2 := aM (aE (bA HB1.out (.cells #[.int .u8 f1, .slice A1 n1 m1] 49)) hb); have HP2 := aM hp2; have GR := aM hb; have l30 := blk_lt BR2.out; have l31 : w.heap.size < w2.heap.size + 1 := (by omega); have l32 : w.heap.size < w2.heap.size + 1 + 1 := (by omega); have l40 := blk_lt BN2.out; have l41 : w.heap.size + 1 + 1 < w2.heap.size + 1 := (by omega); have l50_ := blk_lt BT.out; have l51_ : w1.heap.size < w2.heap.size + 1 := (by omega); have e30 := aA BR2.out 0; have e31 := aA BR2.out 1; have f30 := aC BR2.out 0; have f31 := aC BR2.out 1; have e40 := aA BN2.out 0; have e41 := aA BN2.out 1; have f40 := aC BN2.out 0; have f41 := aC BN2.out 1; have e50 := aA BT.out 0; have e51 := aA BT.out 1; have f50 := aC BT.out 0; have f51 := aC BT.out 1; clear hb hp2))
  refine cF (cG rfl _ _ w.heap.size 49 (#[.int .u8 48, .slice (some ⟨w.heap.size + 1, 0, none⟩) 0 0]) (0, 0) _ rfl ?hg Try.underlying49 rfl (by kernel_rfl)) rfl ?_; (case hg => (repeat (with_reducible refine kA ?_ _)); with_reducible refine bV (cs := #[.int .u8 48, .slice none 0 0]) ?_ 1 _ rfl; with_reducible refine bV (cs := #[.int .u8 0, .slice none 0 0]) ?_ 0 _ rfl; (repeat (fail)); exact BR2.out)
  exact ⟨_, _, _, _, rfl, trivial, by repeat (first | with_reducible exact HB2.out | with_reducible apply bA | with_reducible refine Below.setCell (p := ⟨w.heap.size, 1, none⟩) ?_ (cD _) _ | with_reducible refine Below.setCell (p := ⟨w.heap.size, 0, none⟩) ?_ (cD _) _)⟩
set_option maxHeartbeats 4000000 in
set_option maxRecDepth 100000 in
theorem spec_l7Read.two2_past (s : ByteArray) (p : Nat) (w : World) (h : p < s.size) (hs : s.size ≤ 1000) (hc : bt s p = 40) (m : Nat) (hm : 1 ≤ m) (hm2 : m < s.size) (o : Int) (ho : bt s m = o) (h1 : o = 43 ∨ o = 46 ∨ o = 38) (P : Nat → Nat → World → Int → Option Addr → Nat → Nat → Prop) (ih : ∀ W, Calls Try.prog 43 #[.string s, .int .i64 ((p : Int) + 1)] W (spec_l7Read.Hands P m W)) (q : Nat) (hq : 1 ≤ q) (hq2 : ¬ q < s.size) (Q : Nat → Nat → World → Int → Option Addr → Nat → Nat → Prop) (ih2 : ∀ W, Calls Try.prog 43 #[.string s, .int .i64 ((m : Int) + 1)] W (spec_l7Read.Hands Q q W)) :
  Calls Try.prog 43 #[.string s, .int .i64 p] w (spec_l7Read.Hands (fun _ _ _ _ _ _ _ => True) 0 w) := by
 have hl : ¬ (s.size : Int) ≤ (p : Int) := by omega
 have hl2 : decide ((s.size : Int) ≤ (p : Int)) = false := aK hl
 have hx : ∀ h : p < s.size, ((s[p]'h).toNat : Int) = 40 := fun h' => by rw [← hc]; exact bt_at s (p : Int) h'
 have hrg := bt_range s (p : Int)
 obtain ⟨a, ha⟩ : ∃ a : Int, a = (p : Int) + 1 := ⟨_, rfl⟩
 have hw : wrap64 ((p : Int) + 1) = a := by rw [ha]; unfold wrap64; omega
 rw [← ha] at ih
 have ha2 : (p : Int) + 1 = a := ha.symm
 clear ha
 have IH := aM ih
 clear ih hc hrg
 have z0 : ((m : Int) == 0) = false := beq_eq_false_iff_ne.mpr (by omega)
 have z1 : ¬ (m : Int) = 0 := by omega
 have zl : ¬ (s.size : Int) ≤ (m : Int) := by omega
 have zl2 : decide ((s.size : Int) ≤ (m : Int)) = false := aK zl
 have hy : ∀ h : m < s.size, ((s[m]'h).toNat : Int) = o := fun h' => by rw [← ho]; exact bt_at s (m : Int) h'
 obtain ⟨b, hb⟩ : ∃ b : Int, b = (m : Int) + 1 := ⟨_, rfl⟩
 have hw2 : wrap64 ((m : Int) + 1) = b := by rw [hb]; unfold wrap64; omega
 rw [← hb] at ih2
 have hb2 : (m : Int) + 1 = b := hb.symm
 clear hb
 have IH2 := aM ih2
 clear ih2 ho
 have y0 : ((q : Int) == 0) = false := beq_eq_false_iff_ne.mpr (by omega)
 have y1 : ¬ (q : Int) = 0 := by omega
 have yl : (s.size : Int) ≤ (q : Int) := by omega
 have yl2 : decide ((s.size : Int) ≤ (q : Int)) = true := aH yl
 rcases h1 with rfl | rfl | rfl
 all_goals
  go_enter Try.func43, Try.ntmps43
  go_wp2_with (first | (go_at_call_of 43 a; refine (IH.out _).mono ?_; rintro e w1 ⟨f1, A1, n1, m1, rfl, hp1, hb⟩; obtain ⟨s1, s2, s3⟩ := spec_l7Read.start w; have BR := aM (aD s1 hb); have BN := aM (aD s2 hb); have HB1 := aM (aE s3 hb); have HP1 := aM hp1; have l10 := blk_lt BR.out; have l11 : w.heap.size < w1.heap.size + 1 := (by omega); have l12 : w.heap.size < w1.heap.size + 1 + 1 := (by omega); have l20 := blk_lt BN.out; have l21 : w.heap.size + 1 + 1 < w1.heap.size + 1 := (by omega); have e10 := aA BR.out 0; have e11 := aA BR.out 1; have f10 := aC BR.out 0; have f11 := aC BR.out 1; have e20 := aA BN.out 0; have e21 := aA BN.out 1; have f20 := aC BN.out 0; have f21 := aC BN.out 1; clear s1 s2 s3 hb hp1) | (go_at_call_of 43 b; refine (IH2.out _).mono ?_; rintro e w2 ⟨f2, A2, n2, m2, rfl, hp2, hb⟩; have BR2 := aM (aD (kA BR.out (.cells #[.int .u8 f1, .slice A1 n1 m1] 49)) hb); have BN2 := aM (aD (kA BN.out (.cells #[.int .u8 f1, .slice A1 n1 m1] 49)) hb); have BT := aM (aD (blk_new w1 (.cells #[.int .u8 f1, .slice A1 n1 m1] 49)) hb); have HB2 := aM (aE (bA HB1.out (.cells #[.int .u8 f1, .slice A1 n1 m1] 49)) hb); have HP2 := aM hp2; have GR := aM hb; have l30 := blk_lt BR2.out; have l31 : w.heap.size < w2.heap.size + 1 := (by omega); have l32 : w.heap.size < w2.heap.size + 1 + 1 := (by omega); have l40 := blk_lt BN2.out; have l41 : w.heap.size + 1 + 1 < w2.heap.size + 1 := (by omega); have l50_ := blk_lt BT.out; have l51_ : w1.heap.size < w2.heap.size + 1 := (by omega); have e30 := aA BR2.out 0; have e31 := aA BR2.out 1; have f30 := aC BR2.out 0; have f31 := aC BR2.out 1; have e40 := aA BN2.out 0; have e41 := aA BN2.out 1; have f40 := aC BN2.out 0; have f41 := aC BN2.out 1; have e50 := aA BT.out 0; have e51 := aA BT.out 1; have f50 := aC BT.out 0; have f51 := aC BT.out 1; clear hb hp2))
  refine cF (cG rfl _ _ w.heap.size 49 (#[.int .u8 48, .slice (some ⟨w.heap.size + 1, 0, none⟩) 0 0]) (0, 0) _ rfl ?hg Try.underlying49 rfl (by kernel_rfl)) rfl ?_; (case hg => (repeat (with_reducible refine kA ?_ _)); with_reducible refine bV (cs := #[.int .u8 48, .slice none 0 0]) ?_ 1 _ rfl; with_reducible refine bV (cs := #[.int .u8 0, .slice none 0 0]) ?_ 0 _ rfl; (repeat (fail)); exact BR2.out)
  exact ⟨_, _, _, _, rfl, trivial, by repeat (first | with_reducible exact HB2.out | with_reducible apply bA | with_reducible refine Below.setCell (p := ⟨w.heap.size, 1, none⟩) ?_ (cD _) _ | with_reducible refine Below.setCell (p := ⟨w.heap.size, 0, none⟩) ?_ (cD _) _)⟩
set_option maxHeartbeats 4000000 in
set_option maxRecDepth 100000 in
theorem spec_l7Read.two2_shut (s : ByteArray) (p : Nat) (w : World) (h : p < s.size) (hs : s.size ≤ 1000) (hc : bt s p = 40) (m : Nat) (hm : 1 ≤ m) (hm2 : m < s.size) (o : Int) (ho : bt s m = o) (h1 : o = 43 ∨ o = 46 ∨ o = 38) (P : Nat → Nat → World → Int → Option Addr → Nat → Nat → Prop) (ih : ∀ W, Calls Try.prog 43 #[.string s, .int .i64 ((p : Int) + 1)] W (spec_l7Read.Hands P m W)) (q : Nat) (hq : 1 ≤ q) (hq2 : q < s.size) (c2 : Int) (hc2 : bt s q = c2) (h2 : ¬ c2 = 41) (Q : Nat → Nat → World → Int → Option Addr → Nat → Nat → Prop) (ih2 : ∀ W, Calls Try.prog 43 #[.string s, .int .i64 ((m : Int) + 1)] W (spec_l7Read.Hands Q q W)) :
  Calls Try.prog 43 #[.string s, .int .i64 p] w (spec_l7Read.Hands (fun _ _ _ _ _ _ _ => True) 0 w) := by
 have hl : ¬ (s.size : Int) ≤ (p : Int) := by omega
 have hl2 : decide ((s.size : Int) ≤ (p : Int)) = false := aK hl
 have hx : ∀ h : p < s.size, ((s[p]'h).toNat : Int) = 40 := fun h' => by rw [← hc]; exact bt_at s (p : Int) h'
 have hrg := bt_range s (p : Int)
 obtain ⟨a, ha⟩ : ∃ a : Int, a = (p : Int) + 1 := ⟨_, rfl⟩
 have hw : wrap64 ((p : Int) + 1) = a := by rw [ha]; unfold wrap64; omega
 rw [← ha] at ih
 have ha2 : (p : Int) + 1 = a := ha.symm
 clear ha
 have IH := aM ih
 clear ih hc hrg
 have z0 : ((m : Int) == 0) = false := beq_eq_false_iff_ne.mpr (by omega)
 have z1 : ¬ (m : Int) = 0 := by omega
 have zl : ¬ (s.size : Int) ≤ (m : Int) := by omega
 have zl2 : decide ((s.size : Int) ≤ (m : Int)) = false := aK zl
 have hy : ∀ h : m < s.size, ((s[m]'h).toNat : Int) = o := fun h' => by rw [← ho]; exact bt_at s (m : Int) h'
 obtain ⟨b, hb⟩ : ∃ b : Int, b = (m : Int) + 1 := ⟨_, rfl⟩
 have hw2 : wrap64 ((m : Int) + 1) = b := by rw [hb]; unfold wrap64; omega
 rw [← hb] at ih2
 have hb2 : (m : Int) + 1 = b := hb.symm
 clear hb
 have IH2 := aM ih2
 clear ih2 ho
 have y0 : ((q : Int) == 0) = false := beq_eq_false_iff_ne.mpr (by omega)
 have y1 : ¬ (q : Int) = 0 := by omega
 have yl : ¬ (s.size : Int) ≤ (q : Int) := by omega
 have yl2 : decide ((s.size : Int) ≤ (q : Int)) = false := aK yl
 have hz : ∀ h : q < s.size, ((s[q]'h).toNat : Int) = c2 := fun h' => by rw [← hc2]; exact bt_at s (q : Int) h'
 clear hc2
 have y41 : (c2 != 41) = true := bne_iff_ne.mpr h2
 clear h2
 rcases h1 with rfl | rfl | rfl
 all_goals
  go_enter Try.func43, Try.ntmps43
  go_wp2_with (first | (go_at_call_of 43 a; refine (IH.out _).mono ?_; rintro e w1 ⟨f1, A1, n1, m1, rfl, hp1, hb⟩; obtain ⟨s1, s2, s3⟩ := spec_l7Read.start w; have BR := aM (aD s1 hb); have BN := aM (aD s2 hb); have HB1 := aM (aE s3 hb); have HP1 := aM hp1; have l10 := blk_lt BR.out; have l11 : w.heap.size < w1.heap.size + 1 := (by omega); have l12 : w.heap.size < w1.heap.size + 1 + 1 := (by omega); have l20 := blk_lt BN.out; have l21 : w.heap.size + 1 + 1 < w1.heap.size + 1 := (by omega); have e10 := aA BR.out 0; have e11 := aA BR.out 1; have f10 := aC BR.out 0; have f11 := aC BR.out 1; have e20 := aA BN.out 0; have e21 := aA BN.out 1; have f20 := aC BN.out 0; have f21 := aC BN.out 1; clear s1 s2 s3 hb hp1) | (go_at_call_of 43 b; refine (IH2.out _).mono ?_; rintro e w2 ⟨f2, A2, n2, m2, rfl, hp2, hb⟩; have BR2 := aM (aD (kA BR.out (.cells #[.int .u8 f1, .slice A1 n1 m1] 49)) hb); have BN2 := aM (aD (kA BN.out (.cells #[.int .u8 f1, .slice A1 n1 m1] 49)) hb); have BT := aM (aD (blk_new w1 (.cells #[.int .u8 f1, .slice A1 n1 m1] 49)) hb); have HB2 := aM (aE (bA HB1.out (.cells #[.int .u8 f1, .slice A1 n1 m1] 49)) hb); have HP2 := aM hp2; have GR := aM hb; have l30 := blk_lt BR2.out; have l31 : w.heap.size < w2.heap.size + 1 := (by omega); have l32 : w.heap.size < w2.heap.size + 1 + 1 := (by omega); have l40 := blk_lt BN2.out; have l41 : w.heap.size + 1 + 1 < w2.heap.size + 1 := (by omega); have l50_ := blk_lt BT.out; have l51_ : w1.heap.size < w2.heap.size + 1 := (by omega); have e30 := aA BR2.out 0; have e31 := aA BR2.out 1; have f30 := aC BR2.out 0; have f31 := aC BR2.out 1; have e40 := aA BN2.out 0; have e41 := aA BN2.out 1; have f40 := aC BN2.out 0; have f41 := aC BN2.out 1; have e50 := aA BT.out 0; have e51 := aA BT.out 1; have f50 := aC BT.out 0; have f51 := aC BT.out 1; clear hb hp2))
  refine cF (cG rfl _ _ w.heap.size 49 (#[.int .u8 48, .slice (some ⟨w.heap.size + 1, 0, none⟩) 0 0]) (0, 0) _ rfl ?hg Try.underlying49 rfl (by kernel_rfl)) rfl ?_; (case hg => (repeat (with_reducible refine kA ?_ _)); with_reducible refine bV (cs := #[.int .u8 48, .slice none 0 0]) ?_ 1 _ rfl; with_reducible refine bV (cs := #[.int .u8 0, .slice none 0 0]) ?_ 0 _ rfl; (repeat (fail)); exact BR2.out)
  exact ⟨_, _, _, _, rfl, trivial, by repeat (first | with_reducible exact HB2.out | with_reducible apply bA | with_reducible refine Below.setCell (p := ⟨w.heap.size, 1, none⟩) ?_ (cD _) _ | with_reducible refine Below.setCell (p := ⟨w.heap.size, 0, none⟩) ?_ (cD _) _)⟩
set_option maxHeartbeats 4000000 in
set_option maxRecDepth 100000 in
theorem spec_l7Read.two_yes (s : ByteArray) (p : Nat) (w : World) (h : p < s.size) (hs : s.size ≤ 1000) (hc : bt s p = 40) (m : Nat) (hm : 1 ≤ m) (hm2 : m < s.size) (o : Int) (ho : bt s m = o) (h1 : o = 43 ∨ o = 46 ∨ o = 38) (P : Nat → Nat → World → Int → Option Addr → Nat → Nat → Prop) (ih : ∀ W, Calls Try.prog 43 #[.string s, .int .i64 ((p : Int) + 1)] W (spec_l7Read.Hands P m W)) (q : Nat) (hq : 1 ≤ q) (hq2 : q < s.size) (hc2 : bt s q = 41) (Q : Nat → Nat → World → Int → Option Addr → Nat → Nat → Prop) (ih2 : ∀ W, Calls Try.prog 43 #[.string s, .int .i64 ((m : Int) + 1)] W (spec_l7Read.Hands Q q W)) (hP : ∀ lo hi W W' f A n m, P lo hi W f A n m → (∀ i, lo ≤ i → i < hi → W'.heap[i]? = W.heap[i]?) → P lo hi W' f A n m) (hQ : ∀ lo hi W W' f A n m, Q lo hi W f A n m → (∀ i, lo ≤ i → i < hi → W'.heap[i]? = W.heap[i]?) → Q lo hi W' f A n m)  :
  Calls Try.prog 43 #[.string s, .int .i64 p] w (spec_l7Read.Hands (fun lo hi W f A n m => ∃ g f1 A1 n1 m1 lo1 hi1 f2 A2 n2 m2 lo2 hi2, f = o ∧ A = some ⟨g, 0, none⟩ ∧ n = 2 ∧ 2 ≤ m ∧ lo ≤ g ∧ g < hi ∧ lo ≤ lo1 ∧ hi1 ≤ hi ∧ lo ≤ lo2 ∧ hi2 ≤ hi ∧ W.heap[g]? = some (.cells #[.int .u8 f1, .slice A1 n1 m1, .int .u8 f2, .slice A2 n2 m2] 49 (0, 0)) ∧ P lo1 hi1 W f1 A1 n1 m1 ∧ Q lo2 hi2 W f2 A2 n2 m2) ((q : Int) + 1) w) := by
 have hl : ¬ (s.size : Int) ≤ (p : Int) := by omega
 have hl2 : decide ((s.size : Int) ≤ (p : Int)) = false := aK hl
 have hx : ∀ h : p < s.size, ((s[p]'h).toNat : Int) = 40 := fun h' => by rw [← hc]; exact bt_at s (p : Int) h'
 have hrg := bt_range s (p : Int)
 obtain ⟨a, ha⟩ : ∃ a : Int, a = (p : Int) + 1 := ⟨_, rfl⟩
 have hw : wrap64 ((p : Int) + 1) = a := by rw [ha]; unfold wrap64; omega
 rw [← ha] at ih
 have ha2 : (p : Int) + 1 = a := ha.symm
 clear ha
 have IH := aM ih
 clear ih hc hrg
 have z0 : ((m : Int) == 0) = false := beq_eq_false_iff_ne.mpr (by omega)
 have z1 : ¬ (m : Int) = 0 := by omega
 have zl : ¬ (s.size : Int) ≤ (m : Int) := by omega
 have zl2 : decide ((s.size : Int) ≤ (m : Int)) = false := aK zl
 have hy : ∀ h : m < s.size, ((s[m]'h).toNat : Int) = o := fun h' => by rw [← ho]; exact bt_at s (m : Int) h'
 obtain ⟨b, hb⟩ : ∃ b : Int, b = (m : Int) + 1 := ⟨_, rfl⟩
 have hw2 : wrap64 ((m : Int) + 1) = b := by rw [hb]; unfold wrap64; omega
 rw [← hb] at ih2
 have hb2 : (m : Int) + 1 = b := hb.symm
 clear hb
 have IH2 := aM ih2
 clear ih2 ho
 have y0 : ((q : Int) == 0) = false := beq_eq_false_iff_ne.mpr (by omega)
 have y1 : ¬ (q : Int) = 0 := by omega
 have yl : ¬ (s.size : Int) ≤ (q : Int) := by omega
 have yl2 : decide ((s.size : Int) ≤ (q : Int)) = false := aK yl
 have hz : ∀ h : q < s.size, ((s[q]'h).toNat : Int) = 41 := fun h' => by rw [← hc2]; exact bt_at s (q : Int) h'
 have hw3 : wrap64 ((q : Int) + 1) = ((q + 1 : Nat) : Int) := by unfold wrap64; omega
 clear hc2
 rcases h1 with rfl | rfl | rfl
 ·go_enter Try.func43, Try.ntmps43
  go_wp2_with (first | (go_at_call_of 43 a; refine (IH.out _).mono ?_; rintro e w1 ⟨f1, A1, n1, m1, rfl, hp1, hb⟩; obtain ⟨s1, s2, s3⟩ := spec_l7Read.start w; have BR := aM (aD s1 hb); have BN := aM (aD s2 hb); have HB1 := aM (aE s3 hb); have HP1 := aM hp1; have l10 := blk_lt BR.out; have l11 : w.heap.size < w1.heap.size + 1 := (by omega); have l12 : w.heap.size < w1.heap.size + 1 + 1 := (by omega); have l20 := blk_lt BN.out; have l21 : w.heap.size + 1 + 1 < w1.heap.size + 1 := (by omega); have e10 := aA BR.out 0; have e11 := aA BR.out 1; have f10 := aC BR.out 0; have f11 := aC BR.out 1; have e20 := aA BN.out 0; have e21 := aA BN.out 1; have f20 := aC BN.out 0; have f21 := aC BN.out 1; clear s1 s2 s3 hb hp1) | (go_at_call_of 43 b; refine (IH2.out _).mono ?_; rintro e w2 ⟨f2, A2, n2, m2, rfl, hp2, hb⟩; have BR2 := aM (aD (kA BR.out (.cells #[.int .u8 f1, .slice A1 n1 m1] 49)) hb); have BN2 := aM (aD (kA BN.out (.cells #[.int .u8 f1, .slice A1 n1 m1] 49)) hb); have BT := aM (aD (blk_new w1 (.cells #[.int .u8 f1, .slice A1 n1 m1] 49)) hb); have HB2 := aM (aE (bA HB1.out (.cells #[.int .u8 f1, .slice A1 n1 m1] 49)) hb); have HP2 := aM hp2; have GR := aM hb; have l30 := blk_lt BR2.out; have l31 : w.heap.size < w2.heap.size + 1 := (by omega); have l32 : w.heap.size < w2.heap.size + 1 + 1 := (by omega); have l40 := blk_lt BN2.out; have l41 : w.heap.size + 1 + 1 < w2.heap.size + 1 := (by omega); have l50_ := blk_lt BT.out; have l51_ : w1.heap.size < w2.heap.size + 1 := (by omega); have e30 := aA BR2.out 0; have e31 := aA BR2.out 1; have f30 := aC BR2.out 0; have f31 := aC BR2.out 1; have e40 := aA BN2.out 0; have e41 := aA BN2.out 1; have f40 := aC BN2.out 0; have f41 := aC BN2.out 1; have e50 := aA BT.out 0; have e51 := aA BT.out 1; have f50 := aC BT.out 0; have f51 := aC BT.out 1; clear hb hp2))
  go_region
  try go_wp2
  refine cF (cG rfl _ _ w.heap.size 49 (#[.int .u8 43, .slice (some ⟨w2.heap.size + 1, 0, none⟩) 2 2]) (0, 0) _ rfl ?hg Try.underlying49 rfl (by kernel_rfl)) rfl ?_; (case hg => (repeat (first | with_reducible refine kA ?_ _ | with_reducible refine kD ?_)); refine bV (cs := #[.int .u8 43, .slice none 0 0]) ?_ 1 _ rfl; refine bV (cs := #[.int .u8 0, .slice none 0 0]) ?_ 0 _ rfl; exact BR2.out)
  have lo0 : (((w.alloc (.cells #[.int .u8 0, .slice none 0 0] 49)).alloc (.cells #[] 49)).alloc (.cells #[.int .u8 48, .slice (some ⟨w.heap.size + 1, 0, none⟩) 0 0] 49)).heap.size = w.heap.size + 1 + 1 + 1 := by rw [bW, bW, bW]
  have lo1 : (w1.alloc (.cells #[.int .u8 f1, .slice A1 n1 m1] 49)).heap.size = w1.heap.size + 1 := bW ..
  have g1 := HB1.out.size
  have hsz : (((((w2.setCell ⟨w.heap.size, 0, none⟩ (.int .u8 43)).setCell ⟨w.heap.size, 1, none⟩ (.slice (some ⟨w2.heap.size + 1, 0, none⟩) 2 2)).alloc (.cells #[.int .u8 f2, .slice A2 n2 m2] 49)).alloc (.cells #[.int .u8 f1, .slice A1 n1 m1, .int .u8 f2, .slice A2 n2 m2] 49)).drew).heap.size = w2.heap.size + 1 + 1 := by show (World.alloc _ _).heap.size = _; rw [bW, bW]; simp [World.setCell]
  have far : ∀ i, w.heap.size + 1 ≤ i → i < w2.heap.size → (((((w2.setCell ⟨w.heap.size, 0, none⟩ (.int .u8 43)).setCell ⟨w.heap.size, 1, none⟩ (.slice (some ⟨w2.heap.size + 1, 0, none⟩) 2 2)).alloc (.cells #[.int .u8 f2, .slice A2 n2 m2] 49)).alloc (.cells #[.int .u8 f1, .slice A1 n1 m1, .int .u8 f2, .slice A2 n2 m2] 49)).drew).heap[i]? = w2.heap[i]? := fun i h1 h2 => by show (World.alloc _ _).heap[i]? = _; rw [Below.heap_alloc _ _ _ (by rw [bW]; simp [World.setCell]; omega), Below.heap_alloc _ _ _ (by simp [World.setCell]; omega), Below.heap_setCell _ _ _ _ (by show i ≠ w.heap.size; omega), Below.heap_setCell _ _ _ _ (by show i ≠ w.heap.size; omega)]
  have far1 : ∀ i, i < w1.heap.size → w2.heap[i]? = w1.heap[i]? := fun i h1 => (GR.out.block i (by omega)).trans (Below.heap_alloc _ _ _ h1)
  have sz2 := GR.out.size
  exact ⟨_, _, _, _, rfl, ⟨w2.heap.size + 1, f1, A1, n1, m1, _, w1.heap.size, f2, A2, n2, m2, _, w2.heap.size, rfl, rfl, rfl, cD _, by omega, by rw [hsz]; omega, by rw [lo0]; omega, by rw [hsz]; omega, by rw [lo1]; omega, by rw [hsz]; omega, kD (spec_l7Read.new2 _ _ _ _ (by simp [World.setCell])), hP _ _ _ _ _ _ _ _ HP1.out fun i h1 h2 => (far i (by omega) (by omega)).trans (far1 i h2), hQ _ _ _ _ _ _ _ _ HP2.out fun i h1 h2 => far i (by omega) h2⟩, b1 (bA (bA ((HB2.out.setCell (p := ⟨w.heap.size, 0, none⟩) (cD _) _).setCell (p := ⟨w.heap.size, 1, none⟩) (cD _) _) _) _)⟩
 ·go_enter Try.func43, Try.ntmps43
  go_wp2_with (first | (go_at_call_of 43 a; refine (IH.out _).mono ?_; rintro e w1 ⟨f1, A1, n1, m1, rfl, hp1, hb⟩; obtain ⟨s1, s2, s3⟩ := spec_l7Read.start w; have BR := aM (aD s1 hb); have BN := aM (aD s2 hb); have HB1 := aM (aE s3 hb); have HP1 := aM hp1; have l10 := blk_lt BR.out; have l11 : w.heap.size < w1.heap.size + 1 := (by omega); have l12 : w.heap.size < w1.heap.size + 1 + 1 := (by omega); have l20 := blk_lt BN.out; have l21 : w.heap.size + 1 + 1 < w1.heap.size + 1 := (by omega); have e10 := aA BR.out 0; have e11 := aA BR.out 1; have f10 := aC BR.out 0; have f11 := aC BR.out 1; have e20 := aA BN.out 0; have e21 := aA BN.out 1; have f20 := aC BN.out 0; have f21 := aC BN.out 1; clear s1 s2 s3 hb hp1) | (go_at_call_of 43 b; refine (IH2.out _).mono ?_; rintro e w2 ⟨f2, A2, n2, m2, rfl, hp2, hb⟩; have BR2 := aM (aD (kA BR.out (.cells #[.int .u8 f1, .slice A1 n1 m1] 49)) hb); have BN2 := aM (aD (kA BN.out (.cells #[.int .u8 f1, .slice A1 n1 m1] 49)) hb); have BT := aM (aD (blk_new w1 (.cells #[.int .u8 f1, .slice A1 n1 m1] 49)) hb); have HB2 := aM (aE (bA HB1.out (.cells #[.int .u8 f1, .slice A1 n1 m1] 49)) hb); have HP2 := aM hp2; have GR := aM hb; have l30 := blk_lt BR2.out; have l31 : w.heap.size < w2.heap.size + 1 := (by omega); have l32 : w.heap.size < w2.heap.size + 1 + 1 := (by omega); have l40 := blk_lt BN2.out; have l41 : w.heap.size + 1 + 1 < w2.heap.size + 1 := (by omega); have l50_ := blk_lt BT.out; have l51_ : w1.heap.size < w2.heap.size + 1 := (by omega); have e30 := aA BR2.out 0; have e31 := aA BR2.out 1; have f30 := aC BR2.out 0; have f31 := aC BR2.out 1; have e40 := aA BN2.out 0; have e41 := aA BN2.out 1; have f40 := aC BN2.out 0; have f41 := aC BN2.out 1; have e50 := aA BT.out 0; have e51 := aA BT.out 1; have f50 := aC BT.out 0; have f51 := aC BT.out 1; clear hb hp2))
  go_region
  try go_wp2
  refine cF (cG rfl _ _ w.heap.size 49 (#[.int .u8 46, .slice (some ⟨w2.heap.size + 1, 0, none⟩) 2 2]) (0, 0) _ rfl ?hg Try.underlying49 rfl (by kernel_rfl)) rfl ?_; (case hg => (repeat (first | with_reducible refine kA ?_ _ | with_reducible refine kD ?_)); refine bV (cs := #[.int .u8 46, .slice none 0 0]) ?_ 1 _ rfl; refine bV (cs := #[.int .u8 0, .slice none 0 0]) ?_ 0 _ rfl; exact BR2.out)
  have lo0 : (((w.alloc (.cells #[.int .u8 0, .slice none 0 0] 49)).alloc (.cells #[] 49)).alloc (.cells #[.int .u8 48, .slice (some ⟨w.heap.size + 1, 0, none⟩) 0 0] 49)).heap.size = w.heap.size + 1 + 1 + 1 := by rw [bW, bW, bW]
  have lo1 : (w1.alloc (.cells #[.int .u8 f1, .slice A1 n1 m1] 49)).heap.size = w1.heap.size + 1 := bW ..
  have g1 := HB1.out.size
  have hsz : (((((w2.setCell ⟨w.heap.size, 0, none⟩ (.int .u8 46)).setCell ⟨w.heap.size, 1, none⟩ (.slice (some ⟨w2.heap.size + 1, 0, none⟩) 2 2)).alloc (.cells #[.int .u8 f2, .slice A2 n2 m2] 49)).alloc (.cells #[.int .u8 f1, .slice A1 n1 m1, .int .u8 f2, .slice A2 n2 m2] 49)).drew).heap.size = w2.heap.size + 1 + 1 := by show (World.alloc _ _).heap.size = _; rw [bW, bW]; simp [World.setCell]
  have far : ∀ i, w.heap.size + 1 ≤ i → i < w2.heap.size → (((((w2.setCell ⟨w.heap.size, 0, none⟩ (.int .u8 46)).setCell ⟨w.heap.size, 1, none⟩ (.slice (some ⟨w2.heap.size + 1, 0, none⟩) 2 2)).alloc (.cells #[.int .u8 f2, .slice A2 n2 m2] 49)).alloc (.cells #[.int .u8 f1, .slice A1 n1 m1, .int .u8 f2, .slice A2 n2 m2] 49)).drew).heap[i]? = w2.heap[i]? := fun i h1 h2 => by show (World.alloc _ _).heap[i]? = _; rw [Below.heap_alloc _ _ _ (by rw [bW]; simp [World.setCell]; omega), Below.heap_alloc _ _ _ (by simp [World.setCell]; omega), Below.heap_setCell _ _ _ _ (by show i ≠ w.heap.size; omega), Below.heap_setCell _ _ _ _ (by show i ≠ w.heap.size; omega)]
  have far1 : ∀ i, i < w1.heap.size → w2.heap[i]? = w1.heap[i]? := fun i h1 => (GR.out.block i (by omega)).trans (Below.heap_alloc _ _ _ h1)
  have sz2 := GR.out.size
  exact ⟨_, _, _, _, rfl, ⟨w2.heap.size + 1, f1, A1, n1, m1, _, w1.heap.size, f2, A2, n2, m2, _, w2.heap.size, rfl, rfl, rfl, cD _, by omega, by rw [hsz]; omega, by rw [lo0]; omega, by rw [hsz]; omega, by rw [lo1]; omega, by rw [hsz]; omega, kD (spec_l7Read.new2 _ _ _ _ (by simp [World.setCell])), hP _ _ _ _ _ _ _ _ HP1.out fun i h1 h2 => (far i (by omega) (by omega)).trans (far1 i h2), hQ _ _ _ _ _ _ _ _ HP2.out fun i h1 h2 => far i (by omega) h2⟩, b1 (bA (bA ((HB2.out.setCell (p := ⟨w.heap.size, 0, none⟩) (cD _) _).setCell (p := ⟨w.heap.size, 1, none⟩) (cD _) _) _) _)⟩
 ·go_enter Try.func43, Try.ntmps43
  go_wp2_with (first | (go_at_call_of 43 a; refine (IH.out _).mono ?_; rintro e w1 ⟨f1, A1, n1, m1, rfl, hp1, hb⟩; obtain ⟨s1, s2, s3⟩ := spec_l7Read.start w; have BR := aM (aD s1 hb); have BN := aM (aD s2 hb); have HB1 := aM (aE s3 hb); have HP1 := aM hp1; have l10 := blk_lt BR.out; have l11 : w.heap.size < w1.heap.size + 1 := (by omega); have l12 : w.heap.size < w1.heap.size + 1 + 1 := (by omega); have l20 := blk_lt BN.out; have l21 : w.heap.size + 1 + 1 < w1.heap.size + 1 := (by omega); have e10 := aA BR.out 0; have e11 := aA BR.out 1; have f10 := aC BR.out 0; have f11 := aC BR.out 1; have e20 := aA BN.out 0; have e21 := aA BN.out 1; have f20 := aC BN.out 0; have f21 := aC BN.out 1; clear s1 s2 s3 hb hp1) | (go_at_call_of 43 b; refine (IH2.out _).mono ?_; rintro e w2 ⟨f2, A2, n2, m2, rfl, hp2, hb⟩; have BR2 := aM (aD (kA BR.out (.cells #[.int .u8 f1, .slice A1 n1 m1] 49)) hb); have BN2 := aM (aD (kA BN.out (.cells #[.int .u8 f1, .slice A1 n1 m1] 49)) hb); have BT := aM (aD (blk_new w1 (.cells #[.int .u8 f1, .slice A1 n1 m1] 49)) hb); have HB2 := aM (aE (bA HB1.out (.cells #[.int .u8 f1, .slice A1 n1 m1] 49)) hb); have HP2 := aM hp2; have GR := aM hb; have l30 := blk_lt BR2.out; have l31 : w.heap.size < w2.heap.size + 1 := (by omega); have l32 : w.heap.size < w2.heap.size + 1 + 1 := (by omega); have l40 := blk_lt BN2.out; have l41 : w.heap.size + 1 + 1 < w2.heap.size + 1 := (by omega); have l50_ := blk_lt BT.out; have l51_ : w1.heap.size < w2.heap.size + 1 := (by omega); have e30 := aA BR2.out 0; have e31 := aA BR2.out 1; have f30 := aC BR2.out 0; have f31 := aC BR2.out 1; have e40 := aA BN2.out 0; have e41 := aA BN2.out 1; have f40 := aC BN2.out 0; have f41 := aC BN2.out 1; have e50 := aA BT.out 0; have e51 := aA BT.out 1; have f50 := aC BT.out 0; have f51 := aC BT.out 1; clear hb hp2))
  go_region
  try go_wp2
  refine cF (cG rfl _ _ w.heap.size 49 (#[.int .u8 38, .slice (some ⟨w2.heap.size + 1, 0, none⟩) 2 2]) (0, 0) _ rfl ?hg Try.underlying49 rfl (by kernel_rfl)) rfl ?_; (case hg => (repeat (first | with_reducible refine kA ?_ _ | with_reducible refine kD ?_)); refine bV (cs := #[.int .u8 38, .slice none 0 0]) ?_ 1 _ rfl; refine bV (cs := #[.int .u8 0, .slice none 0 0]) ?_ 0 _ rfl; exact BR2.out)
  have lo0 : (((w.alloc (.cells #[.int .u8 0, .slice none 0 0] 49)).alloc (.cells #[] 49)).alloc (.cells #[.int .u8 48, .slice (some ⟨w.heap.size + 1, 0, none⟩) 0 0] 49)).heap.size = w.heap.size + 1 + 1 + 1 := by rw [bW, bW, bW]
  have lo1 : (w1.alloc (.cells #[.int .u8 f1, .slice A1 n1 m1] 49)).heap.size = w1.heap.size + 1 := bW ..
  have g1 := HB1.out.size
  have hsz : (((((w2.setCell ⟨w.heap.size, 0, none⟩ (.int .u8 38)).setCell ⟨w.heap.size, 1, none⟩ (.slice (some ⟨w2.heap.size + 1, 0, none⟩) 2 2)).alloc (.cells #[.int .u8 f2, .slice A2 n2 m2] 49)).alloc (.cells #[.int .u8 f1, .slice A1 n1 m1, .int .u8 f2, .slice A2 n2 m2] 49)).drew).heap.size = w2.heap.size + 1 + 1 := by show (World.alloc _ _).heap.size = _; rw [bW, bW]; simp [World.setCell]
  have far : ∀ i, w.heap.size + 1 ≤ i → i < w2.heap.size → (((((w2.setCell ⟨w.heap.size, 0, none⟩ (.int .u8 38)).setCell ⟨w.heap.size, 1, none⟩ (.slice (some ⟨w2.heap.size + 1, 0, none⟩) 2 2)).alloc (.cells #[.int .u8 f2, .slice A2 n2 m2] 49)).alloc (.cells #[.int .u8 f1, .slice A1 n1 m1, .int .u8 f2, .slice A2 n2 m2] 49)).drew).heap[i]? = w2.heap[i]? := fun i h1 h2 => by show (World.alloc _ _).heap[i]? = _; rw [Below.heap_alloc _ _ _ (by rw [bW]; simp [World.setCell]; omega), Below.heap_alloc _ _ _ (by simp [World.setCell]; omega), Below.heap_setCell _ _ _ _ (by show i ≠ w.heap.size; omega), Below.heap_setCell _ _ _ _ (by show i ≠ w.heap.size; omega)]
  have far1 : ∀ i, i < w1.heap.size → w2.heap[i]? = w1.heap[i]? := fun i h1 => (GR.out.block i (by omega)).trans (Below.heap_alloc _ _ _ h1)
  have sz2 := GR.out.size
  exact ⟨_, _, _, _, rfl, ⟨w2.heap.size + 1, f1, A1, n1, m1, _, w1.heap.size, f2, A2, n2, m2, _, w2.heap.size, rfl, rfl, rfl, cD _, by omega, by rw [hsz]; omega, by rw [lo0]; omega, by rw [hsz]; omega, by rw [lo1]; omega, by rw [hsz]; omega, kD (spec_l7Read.new2 _ _ _ _ (by simp [World.setCell])), hP _ _ _ _ _ _ _ _ HP1.out fun i h1 h2 => (far i (by omega) (by omega)).trans (far1 i h2), hQ _ _ _ _ _ _ _ _ HP2.out fun i h1 h2 => far i (by omega) h2⟩, b1 (bA (bA ((HB2.out.setCell (p := ⟨w.heap.size, 0, none⟩) (cD _) _).setCell (p := ⟨w.heap.size, 1, none⟩) (cD _) _) _) _)⟩
theorem spec_l7Read.ext_size (s : ByteArray) (p : Nat) : (s.extract p s.size).size = s.size - p := by simp
theorem spec_l7Read.ext_next (s : ByteArray) (p : Nat) (h : p < s.size) : (s.extract p s.size).extract 1 (s.extract p s.size).size = s.extract (p + 1) s.size := by
 rw [ByteArray.extract_extract]
 congr 1
 simp; omega
theorem spec_l7Read.ext_bt (s : ByteArray) (p : Nat) (h : p < s.size) : bt (s.extract p s.size) 0 = bt s (p : Int) := by
 have h2 : (0 : Int).toNat < (s.extract p s.size).size := by rw [spec_l7Read.ext_size]; simp; omega
 rw [← bt_at _ 0 h2, ← bt_at s (p : Int) (by simpa using h)]
 congr 2
 rw [ByteArray.getElem_extract]
 simp
/-- The cells say the tree, whatever happens outside of [lo, hi). -/
def spec_l7Read.Is (t : Tm) (lo hi : Nat) (W : World) (f : Int) (A : Option Addr) (n m : Nat) : Prop := f = t.toS.f0 ∧ n = t.toS.f1.length ∧ n ≤ m ∧ ∀ W' : World, (∀ i, lo ≤ i → i < hi → W'.heap[i]? = W.heap[i]?) → k49.C W' A n t.toS.f1
theorem spec_l7Read.Is.move (t : Tm) : ∀ lo hi W W' f A n m, spec_l7Read.Is t lo hi W f A n m → (∀ i, lo ≤ i → i < hi → W'.heap[i]? = W.heap[i]?) → spec_l7Read.Is t lo hi W' f A n m :=
 fun lo hi W W' f A n m h k => ⟨h.1, h.2.1, h.2.2.1, fun W2 h2 => h.2.2.2 W2 fun i a b => (h2 i a b).trans (k i a b)⟩
theorem spec_l7Read.none_of {P : Nat → Nat → World → Int → Option Addr → Nat → Nat → Prop} {z : Int} {w w' : World} {e : Ending} (h : spec_l7Read.Hands P z w e w') : spec_l7Read.Hands (fun _ _ _ _ _ _ _ => True) z w e w' := by
 obtain ⟨f, A, n, m, h1, _, h3⟩ := h
 exact ⟨f, A, n, m, h1, trivial, h3⟩
theorem spec_l7Read.calls (n : Nat) : ∀ (s : ByteArray) (p : Nat) (w : World), p ≤ s.size → s.size - p < n → s.size ≤ 1000 →
  (Tm.parse n (s.extract p s.size) = none → Calls Try.prog 43 #[.string s, .int .i64 p] w (spec_l7Read.Hands (fun _ _ _ _ _ _ _ => True) 0 w)) ∧
  (∀ t r, Tm.parse n (s.extract p s.size) = some (t, r) → ∃ q : Nat, p < q ∧ q ≤ s.size ∧ r = s.extract q s.size ∧ Calls Try.prog 43 #[.string s, .int .i64 p] w (spec_l7Read.Hands (spec_l7Read.Is t) q w)) := by
 induction n with
 | zero => intro s p w _ h; omega
 | succ n ih =>
  intro s p w hp h hs
  by_cases h0 : p < s.size
  case neg =>
   have e0 : (s.extract p s.size).size = 0 := by rw [spec_l7Read.ext_size]; omega
   refine ⟨fun _ => spec_l7Read.past s p w h0, fun t r k => ?_⟩
   unfold Tm.parse at k
   rw [if_pos e0] at k; cases k
  have hne : ¬ (s.extract p s.size).size = 0 := by rw [spec_l7Read.ext_size]; omega
  have hbt := spec_l7Read.ext_bt s p h0
  have hnx := spec_l7Read.ext_next s p h0
  unfold Tm.parse
  rw [if_neg hne, hbt, hnx]
  have i1 := fun W => ih s (p + 1) W (by omega) (by omega) hs
  have cst : ((p + 1 : Nat) : Int) = (p : Int) + 1 := by omega
  by_cases h1 : bt s (p : Int) = 48 ∨ bt s (p : Int) = 49 ∨ bt s (p : Int) = 97
  ·rw [if_pos h1]
   refine ⟨(fun k => by cases k), fun t r k => ?_⟩
   obtain ⟨rfl, rfl⟩ := Prod.mk.inj (bU k)
   refine ⟨p + 1, by omega, by omega, rfl, ?_⟩
   rw [cst]
   refine (spec_l7Read.leaf s p w h0 hs _ rfl h1).mono ?_
   rintro e w' ⟨f, A, n, m, k1, ⟨k2, k3⟩, k4⟩
   refine ⟨f, A, n, m, k1, ⟨k2, k3, by omega, fun W' _ => ?_⟩, k4⟩
   subst k3
   exact ⟨rfl, by decide, fun h => absurd h (by decide)⟩
  rw [if_neg h1]
  by_cases h2 : bt s (p : Int) = 42 ∨ (50 ≤ bt s (p : Int) ∧ bt s (p : Int) ≤ 53)
  ·rw [if_pos h2]
   cases hp1 : Tm.parse n (s.extract (p + 1) s.size) with
   | none =>
    refine ⟨fun _ => ?_, fun t r k => by simp at k⟩
    have i2 := fun W => (i1 W).1 hp1
    rw [cst] at i2
    exact (spec_l7Read.un s p w h0 hs _ rfl h2 _ (fun _ _ _ _ _ _ _ _ _ _ => trivial) 0 i2).mono fun e w' h => spec_l7Read.none_of h
   | some x =>
    obtain ⟨a, r⟩ := x
    refine ⟨fun k => by simp at k, fun t r' k => ?_⟩
    simp only [bR, aV, aW] at k
    obtain ⟨rfl, rfl⟩ := k
    obtain ⟨q, q1, q2, q3, _⟩ := (i1 w).2 a r hp1
    have i2 : ∀ W, Calls Try.prog 43 #[.string s, .int .i64 ((p : Int) + 1)] W (spec_l7Read.Hands (spec_l7Read.Is a) q W) := by
     intro W
     obtain ⟨q', q1', q2', q3', k⟩ := (i1 W).2 a r hp1
     have : q' = q := by
      have e1 := congrArg ByteArray.size (q3'.symm.trans q3)
      rw [spec_l7Read.ext_size, spec_l7Read.ext_size] at e1
      omega
     rw [this, cst] at k
     exact k
    refine ⟨q, by omega, q2, q3, (spec_l7Read.un s p w h0 hs _ rfl h2 _ (spec_l7Read.Is.move a) q i2).mono ?_⟩
    rintro e w' ⟨f, A, n, m, k1, ⟨g, f1, A1, n1, m1, lo1, hi1, rfl, rfl, rfl, hm, g1, g2, g3, g4, g5, rfl, rfl, g6, g7⟩, k4⟩
    refine ⟨_, _, _, _, k1, ⟨rfl, rfl, hm, fun W' hW => ?_⟩, k4⟩
    exact spec_l7Read.row1 ((hW g g1 g2).trans g5) rfl rfl g6 (g7 W' fun i a b => hW i (by omega) (by omega))
  rw [if_neg h2]
  by_cases h3 : bt s (p : Int) = 40
  case neg =>
   rw [if_neg h3]
   exact ⟨fun _ => spec_l7Read.bad s p w h0 hs _ rfl h1 h2 h3, fun t r k => by cases k⟩
  rw [if_pos h3]
  cases hp1 : Tm.parse n (s.extract (p + 1) s.size) with
  | none =>
   refine ⟨fun _ => ?_, fun t r k => by simp at k⟩
   have i2 := fun W => (i1 W).1 hp1
   rw [cst] at i2
   exact spec_l7Read.two_z s p w h0 hs h3 _ i2
  | some x =>
   obtain ⟨a, r⟩ := x
   simp only [bR]
   obtain ⟨m, q1, q2, q3, _⟩ := (i1 w).2 a r hp1
   have i2 : ∀ W, Calls Try.prog 43 #[.string s, .int .i64 ((p : Int) + 1)] W (spec_l7Read.Hands (spec_l7Read.Is a) m W) := by
    intro W
    obtain ⟨q', q1', q2', q3', k⟩ := (i1 W).2 a r hp1
    have : q' = m := by
     have e1 := congrArg ByteArray.size (q3'.symm.trans q3)
     rw [spec_l7Read.ext_size, spec_l7Read.ext_size] at e1
     omega
    rw [this, cst] at k
    exact k
   subst q3
   rw [spec_l7Read.ext_size]
   by_cases h4 : m < s.size
   case neg =>
    rw [if_pos (by omega)]
    exact ⟨fun _ => spec_l7Read.two_past s p w h0 hs h3 m (by omega) h4 _ i2, fun t r k => by cases k⟩
   rw [if_neg (by omega), spec_l7Read.ext_bt s m h4]
   by_cases h5 : bt s (m : Int) = 43 ∨ bt s (m : Int) = 46 ∨ bt s (m : Int) = 38
   case neg =>
    rw [if_neg h5]
    exact ⟨fun _ => spec_l7Read.two_sign s p w h0 hs h3 m (by omega) h4 _ rfl h5 _ i2, fun t r k => by cases k⟩
   have hnx2 := spec_l7Read.ext_next s m h4
   rw [spec_l7Read.ext_size] at hnx2
   rw [if_pos h5, hnx2]
   have cst2 : ((m + 1 : Nat) : Int) = (m : Int) + 1 := by omega
   have j1 := fun W => ih s (m + 1) W (by omega) (by omega) hs
   cases hq1 : Tm.parse n (s.extract (m + 1) s.size) with
   | none =>
    refine ⟨fun _ => ?_, fun t r k => by simp at k⟩
    have j2 := fun W => (j1 W).1 hq1
    rw [cst2] at j2
    exact spec_l7Read.two2_z s p w h0 hs h3 m (by omega) h4 _ rfl h5 _ i2 _ j2
   | some y =>
    obtain ⟨b, r2⟩ := y
    simp only [bR]
    obtain ⟨q, u1, u2, u3, _⟩ := (j1 w).2 b r2 hq1
    have j2 : ∀ W, Calls Try.prog 43 #[.string s, .int .i64 ((m : Int) + 1)] W (spec_l7Read.Hands (spec_l7Read.Is b) q W) := by
     intro W
     obtain ⟨q', q1', q2', q3', k⟩ := (j1 W).2 b r2 hq1
     have : q' = q := by
      have e1 := congrArg ByteArray.size (q3'.symm.trans u3)
      rw [spec_l7Read.ext_size, spec_l7Read.ext_size] at e1
      omega
     rw [this, cst2] at k
     exact k
    subst u3
    rw [spec_l7Read.ext_size]
    by_cases h6 : q < s.size
    case neg =>
     rw [if_pos (by omega)]
     exact ⟨fun _ => spec_l7Read.two2_past s p w h0 hs h3 m (by omega) h4 _ rfl h5 _ i2 q (by omega) h6 _ j2, fun t r k => by cases k⟩
    rw [if_neg (by omega), spec_l7Read.ext_bt s q h6]
    by_cases h7 : bt s (q : Int) = 41
    case neg =>
     rw [if_neg h7]
     exact ⟨fun _ => spec_l7Read.two2_shut s p w h0 hs h3 m (by omega) h4 _ rfl h5 _ i2 q (by omega) h6 _ rfl h7 _ j2, fun t r k => by cases k⟩
    have hnx3 := spec_l7Read.ext_next s q h6
    rw [spec_l7Read.ext_size] at hnx3
    rw [if_pos h7, hnx3]
    refine ⟨(fun k => by cases k), fun t r k => ?_⟩
    obtain ⟨rfl, rfl⟩ := Prod.mk.inj (bU k)
    refine ⟨q + 1, by omega, by omega, rfl, ?_⟩
    rw [show ((q + 1 : Nat) : Int) = (q : Int) + 1 by omega]
    refine (spec_l7Read.two_yes s p w h0 hs h3 m (by omega) h4 _ rfl h5 _ i2 q (by omega) h6 h7 _ j2 (spec_l7Read.Is.move a) (spec_l7Read.Is.move b)).mono ?_
    rintro e w' ⟨f, A, n, m', k1, ⟨g, f1, A1, n1, m1, lo1, hi1, f2, A2, n2, m2, lo2, hi2, rfl, rfl, rfl, hm, g1, g2, g3, g4, g5, g6, g7, ⟨rfl, rfl, a3, a4⟩, ⟨rfl, rfl, b3, b4⟩⟩, k4⟩
    refine ⟨_, _, _, _, k1, ⟨rfl, rfl, hm, fun W' hW => ?_⟩, k4⟩
    exact spec_l7Read.row2 ((hW g g1 g2).trans g7) rfl rfl rfl rfl a3 b3 (a4 W' fun i a b => hW i (by omega) (by omega)) (b4 W' fun i a b => hW i (by omega) (by omega))

/-- What the function hands back (the term is that of impl_termOf.calls). -/
def spec_l7Of.Res (w : World) : Option Tm → Ending → World → Prop
 | none, e, w' => ∃ f A n m, e = .returned (.tuple #[.agg #[.int .u8 f, .slice A n m], .bool false]) ∧ Below w.heap.size w w'
 | some t, e, w' => ∃ A m, e = .returned (.tuple #[.agg #[.int .u8 t.toS.f0, .slice A t.toS.f1.length m], .bool true]) ∧ t.toS.f1.length ≤ m ∧ k49.C w' A t.toS.f1.length t.toS.f1 ∧ Below w.heap.size w w'
set_option maxHeartbeats 4000000 in
set_option maxRecDepth 100000 in
theorem spec_l7Of.long (s : ByteArray) (w : World) (h : ¬ s.size ≤ 60) :
  Calls Try.prog 28 #[.string s] w (spec_l7Of.Res w none) := by
 have hl : (60 : Int) < (s.size : Int) := by omega
 go_enter Try.func28, Try.ntmps28
 go_wp2
 refine cF (cG rfl _ _ w.heap.size 49 (#[.int .u8 48, .slice (some ⟨w.heap.size + 1, 0, none⟩) 0 0]) (0, 0) _ rfl ?hg Try.underlying49 rfl (by kernel_rfl)) rfl ?_; (case hg => repeat (first | with_reducible exact blk_new _ _ | with_reducible refine kA ?_ _))
 exact ⟨_, _, _, _, rfl, by repeat (first | with_reducible exact cE _ _ | with_reducible apply bA)⟩
set_option maxHeartbeats 4000000 in
set_option maxRecDepth 100000 in
theorem spec_l7Of.no (s : ByteArray) (w : World) (h : s.size ≤ 60) (P : Nat → Nat → World → Int → Option Addr → Nat → Nat → Prop) (ih : ∀ W, Calls Try.prog 43 #[.string s, .int .i64 0] W (spec_l7Read.Hands P 0 W)) :
  Calls Try.prog 28 #[.string s] w (spec_l7Of.Res w none) := by
 have hl : ¬ (60 : Int) < (s.size : Int) := by omega
 have IH := aM ih
 clear ih
 go_enter Try.func28, Try.ntmps28
 go_wp2_with (go_at_call 43; refine (IH.out _).mono ?_; rintro e w1 ⟨f1, A1, n1, m1, rfl, hp1, hb⟩; obtain ⟨s1, s2, s3⟩ := spec_l7Read.start w; have BR := aM (aD s1 hb); have BN := aM (aD s2 hb); have HB1 := aM (aE s3 hb); have l10 := blk_lt BR.out; have l20 := blk_lt BN.out; have e10 := aA BR.out 0; have e11 := aA BR.out 1; have f10 := aC BR.out 0; have f11 := aC BR.out 1; have e20 := aA BN.out 0; have e21 := aA BN.out 1; clear s1 s2 s3 hb hp1)
 refine cF (cG rfl _ _ w.heap.size 49 (#[.int .u8 48, .slice (some ⟨w.heap.size + 1, 0, none⟩) 0 0]) (0, 0) _ rfl ?hg Try.underlying49 rfl (by kernel_rfl)) rfl ?_; (case hg => (repeat (with_reducible refine kA ?_ _)); refine bV (cs := #[.int .u8 48, .slice none 0 0]) ?_ 1 _ rfl; refine bV (cs := #[.int .u8 0, .slice none 0 0]) ?_ 0 _ rfl; (repeat (fail)); exact BR.out)
 exact ⟨_, _, _, _, rfl, by repeat (first | with_reducible exact HB1.out | with_reducible apply bA | with_reducible refine Below.setCell (p := ⟨w.heap.size, 1, none⟩) ?_ (cD _) _ | with_reducible refine Below.setCell (p := ⟨w.heap.size, 0, none⟩) ?_ (cD _) _)⟩
set_option maxHeartbeats 4000000 in
set_option maxRecDepth 100000 in
theorem spec_l7Of.rest (s : ByteArray) (w : World) (h : s.size ≤ 60) (q : Nat) (hq : 1 ≤ q) (hq2 : ¬ q = s.size) (P : Nat → Nat → World → Int → Option Addr → Nat → Nat → Prop) (ih : ∀ W, Calls Try.prog 43 #[.string s, .int .i64 0] W (spec_l7Read.Hands P q W)) :
  Calls Try.prog 28 #[.string s] w (spec_l7Of.Res w none) := by
 have hl : ¬ (60 : Int) < (s.size : Int) := by omega
 have IH := aM ih
 clear ih
 have z0 : ((q : Int) == 0) = false := beq_eq_false_iff_ne.mpr (by omega)
 have z1 : ¬ (q : Int) = 0 := by omega
 have zl : ((q : Int) != (s.size : Int)) = true := bne_iff_ne.mpr (by omega)
 go_enter Try.func28, Try.ntmps28
 go_wp2_with (go_at_call 43; refine (IH.out _).mono ?_; rintro e w1 ⟨f1, A1, n1, m1, rfl, hp1, hb⟩; obtain ⟨s1, s2, s3⟩ := spec_l7Read.start w; have BR := aM (aD s1 hb); have BN := aM (aD s2 hb); have HB1 := aM (aE s3 hb); have l10 := blk_lt BR.out; have l20 := blk_lt BN.out; have e10 := aA BR.out 0; have e11 := aA BR.out 1; have f10 := aC BR.out 0; have f11 := aC BR.out 1; have e20 := aA BN.out 0; have e21 := aA BN.out 1; clear s1 s2 s3 hb hp1)
 refine cF (cG rfl _ _ w.heap.size 49 (#[.int .u8 48, .slice (some ⟨w.heap.size + 1, 0, none⟩) 0 0]) (0, 0) _ rfl ?hg Try.underlying49 rfl (by kernel_rfl)) rfl ?_; (case hg => (repeat (with_reducible refine kA ?_ _)); refine bV (cs := #[.int .u8 48, .slice none 0 0]) ?_ 1 _ rfl; refine bV (cs := #[.int .u8 0, .slice none 0 0]) ?_ 0 _ rfl; (repeat (fail)); exact BR.out)
 exact ⟨_, _, _, _, rfl, by repeat (first | with_reducible exact HB1.out | with_reducible apply bA | with_reducible refine Below.setCell (p := ⟨w.heap.size, 1, none⟩) ?_ (cD _) _ | with_reducible refine Below.setCell (p := ⟨w.heap.size, 0, none⟩) ?_ (cD _) _)⟩
set_option maxHeartbeats 4000000 in
set_option maxRecDepth 100000 in
theorem spec_l7Of.yes (s : ByteArray) (w : World) (h : s.size ≤ 60) (q : Nat) (hq : 1 ≤ q) (hq2 : q = s.size) (t : Tm) (ih : ∀ W, Calls Try.prog 43 #[.string s, .int .i64 0] W (spec_l7Read.Hands (spec_l7Read.Is t) q W)) :
  Calls Try.prog 28 #[.string s] w (spec_l7Of.Res w (some t)) := by
 have hl : ¬ (60 : Int) < (s.size : Int) := by omega
 have IH := aM ih
 clear ih
 have z0 : ((q : Int) == 0) = false := beq_eq_false_iff_ne.mpr (by omega)
 have zl2 : (q : Int) = (s.size : Int) := by omega
 have zl3 : ((s.size : Int) == 0) = false := by rw [← zl2]; exact z0
 go_enter Try.func28, Try.ntmps28
 go_wp2_with (go_at_call 43; refine (IH.out _).mono ?_; rintro e w1 ⟨f1, A1, n1, m1, rfl, hp1, hb⟩; obtain ⟨s1, s2, s3⟩ := spec_l7Read.start w; have BR := aM (aD s1 hb); have HB1 := aM (aE s3 hb); have HP1 := aM hp1; have l10 := blk_lt BR.out; have e10 := aA BR.out 0; have e11 := aA BR.out 1; have f10 := aC BR.out 0; have f11 := aC BR.out 1; clear s1 s2 s3 hb hp1)
 refine cF (cG rfl _ _ w.heap.size 49 (#[.int .u8 f1, .slice A1 n1 m1]) (0, 0) _ rfl ?hg Try.underlying49 rfl (by kernel_rfl)) rfl ?_; (case hg => (repeat (with_reducible refine kA ?_ _)); refine bV (cs := #[.int .u8 f1, .slice none 0 0]) ?_ 1 _ rfl; refine bV (cs := #[.int .u8 0, .slice none 0 0]) ?_ 0 _ rfl; (repeat (fail)); exact BR.out)
 obtain ⟨rfl, rfl, p3, p4⟩ := HP1.out
 have lo0 : (((w.alloc (.cells #[.int .u8 0, .slice none 0 0] 49)).alloc (.cells #[] 49)).alloc (.cells #[.int .u8 48, .slice (some ⟨w.heap.size + 1, 0, none⟩) 0 0] 49)).heap.size = w.heap.size + 1 + 1 + 1 := by rw [bW, bW, bW]
 refine ⟨_, _, rfl, p3, p4 _ fun i h1 h2 => ?_, by repeat (first | with_reducible exact HB1.out | with_reducible apply bA | with_reducible refine Below.setCell (p := ⟨w.heap.size, 1, none⟩) ?_ (cD _) _ | with_reducible refine Below.setCell (p := ⟨w.heap.size, 0, none⟩) ?_ (cD _) _)⟩
 rw [lo0] at h1
 first | (rw [Below.heap_alloc _ _ _ (by simp [World.setCell]; omega), Below.heap_setCell _ _ _ _ (by show i ≠ w.heap.size; omega), Below.heap_setCell _ _ _ _ (by show i ≠ w.heap.size; omega)])
theorem spec_l7Of.calls (s : ByteArray) (w : World) : Calls Try.prog 28 #[.string s] w (spec_l7Of.Res w (Tm.of s)) := by
 unfold Tm.of
 by_cases h : s.size ≤ 60
 ·rw [if_pos h]
  have hx : s.extract 0 s.size = s := by simp
  have C := fun W => spec_l7Read.calls 61 s 0 W (by omega) (by omega) (by omega)
  rw [hx] at C
  cases hp : Tm.parse 61 s with
  | none => exact spec_l7Of.no s w h _ (fun W => (C W).1 hp)
  | some x =>
   obtain ⟨t, r⟩ := x
   obtain ⟨q, q1, q2, q3, _⟩ := (C w).2 t r hp
   have i : ∀ W, Calls Try.prog 43 #[.string s, .int .i64 0] W (spec_l7Read.Hands (spec_l7Read.Is t) q W) := by
    intro W
    obtain ⟨q', q1', q2', q3', k⟩ := (C W).2 t r hp
    have : q' = q := by
     have e1 := congrArg ByteArray.size (q3'.symm.trans q3)
     rw [spec_l7Read.ext_size, spec_l7Read.ext_size] at e1
     omega
    rw [this] at k
    exact k
   simp only [bR]
   by_cases hr : r.size = 0
   ·rw [if_pos hr]
    exact spec_l7Of.yes s w h q (by omega) (by rw [q3, spec_l7Read.ext_size] at hr; omega) t i
   ·rw [if_neg hr]
    exact spec_l7Of.rest s w h q (by omega) (by rw [q3, spec_l7Read.ext_size] at hr; omega) _ i
 ·rw [if_neg h]; exact spec_l7Of.long s w h

def spec_l6In.f (a0 : Int) (a1 : Int) (a2 : Int) : Option (Bool) := if a0 ≥ a1 then (some (decide (a0 ≤ a2))) else (some false)
set_option maxHeartbeats 8000000 in
set_option maxRecDepth 100000 in
theorem spec_l6In.calls (a0 : Int) (a1 : Int) (a2 : Int) (r : Bool) (w : World) (h : spec_l6In.f a0 a1 a2 = some r) :
  Calls Try.prog 29 #[.int .i64 a0, .int .i64 a1, .int .i64 a2] w fun e w' => e = .returned (.bool r) ∧ Drawn0 w w' := by
 have H : (if a0 ≥ a1 then (some (decide (a0 ≤ a2))) else (some false)) = some r := h
 clear h
 by_cases c4 : a0 ≥ a1
 ·rw [if_pos c4] at H
  have c4b0 : decide (a1 ≤ a0) = true := aH c4
  clear c4
  obtain rfl := bU H
  go_enter Try.func29, Try.ntmps29
  go_wp2
  go_ret
  exact ⟨by first | rfl | (simp [*]; done), by repeat (exact Drawn0.refl _)⟩
 ·rw [if_neg c4] at H
  have c4b0 : decide (a1 ≤ a0) = false := aK c4
  clear c4
  obtain rfl := bU H
  go_enter Try.func29, Try.ntmps29
  go_wp2
  go_ret
  exact ⟨by first | rfl | (simp [*]; done), by repeat (exact Drawn0.refl _)⟩


def spec_l1Bit.f (a0 : Bool) : Option (Int) := if a0 = true then (some 1) else (some 0)
set_option maxHeartbeats 8000000 in
set_option maxRecDepth 100000 in
theorem spec_l1Bit.calls (a0 : Bool) (r : Int) (w : World) (h : spec_l1Bit.f a0 = some r) :
  Calls Try.prog 44 #[.bool a0] w fun e w' => e = .returned (.int .i64 r) ∧ Drawn0 w w' := by
 have H : (if a0 = true then (some 1) else (some 0)) = some r := h
 clear h
 by_cases c2 : a0 = true
 ·subst c2
  replace H : (some 1) = some r := by rw [if_pos rfl] at H; exact H
  obtain rfl := bU H
  go_enter Try.func44, Try.ntmps44
  go_wp2
  go_ret
  exact ⟨by first | rfl | (simp [*]; done), by repeat (exact Drawn0.refl _)⟩
 ·replace c2 := Bool.eq_false_iff.mpr c2
  subst c2
  replace H : (some 0) = some r := by rw [if_neg (show ¬ (false = true) by decide)] at H; exact H
  obtain rfl := bU H
  go_enter Try.func44, Try.ntmps44
  go_wp2
  go_ret
  exact ⟨by first | rfl | (simp [*]; done), by repeat (exact Drawn0.refl _)⟩


mutual
def spec_l7Sum.l0 : Nat → List Bool → List Bool → List Bool → Int → Option (List Bool)
 | 0, _, _, _, _ => none
 | k + 1, x0, x1, x5, x6 => if x6 < (x0.length : Int) then (spec_l7Sum.l1 k x0 x1 x5 x6 0) else (some x5)
def spec_l7Sum.l1 : Nat → List Bool → List Bool → List Bool → Int → Int → Option (List Bool)
 | 0, _, _, _, _, _ => none
 | k + 1, x0, x1, x5, x6, x7 => if (wrap64 (x6 + x7)) < (x0.length : Int) then (if 0 ≤ x6 then (if x6 < (x0.length : Int) then (if rdOf false x0 x6 = true then (if 0 ≤ (wrap64 (x6 + x7)) then (if (wrap64 (x6 + x7)) < (x5.length : Int) then (if rdOf false x5 (wrap64 (x6 + x7)) = true then (spec_l7Sum.l1 k x0 x1 (x5.set ((wrap64 (x6 + x7)) : Int).toNat true) x6 (wrap64 (x7 + 1))) else (if 0 ≤ x7 then (if x7 < (x1.length : Int) then (spec_l7Sum.l1 k x0 x1 (x5.set ((wrap64 (x6 + x7)) : Int).toNat (rdOf false x1 x7)) x6 (wrap64 (x7 + 1))) else (none)) else (none))) else (none)) else (none)) else (spec_l7Sum.l0 k x0 x1 x5 (wrap64 (x6 + 1)))) else (none)) else (none)) else (spec_l7Sum.l0 k x0 x1 x5 (wrap64 (x6 + 1)))
end
def spec_l7Sum.f (k : Nat) (l0 : List Bool) (l1 : List Bool) : Option (List Bool) := if 0 ≤ (l0.length : Int) then (if ((l0.length : Int) : Int).toNat ≤ 281474976710656 then (spec_l7Sum.l0 k l0 l1 (List.replicate ((l0.length : Int) : Int).toNat false) 0) else (none)) else (none)
set_option maxHeartbeats 8000000 in
set_option maxRecDepth 100000 in
theorem spec_l7Sum.calls (k : Nat) (A0 : Option Addr) (c0 : Nat) (l0 : List Bool) (A1 : Option Addr) (c1 : Nat) (l1 : List Bool) (r : List Bool) (w : World) (hr0 : Kd.C Kd.bool w A0 l0.length l0) (hc0 : l0.length ≤ c0) (hr1 : Kd.C Kd.bool w A1 l1.length l1) (hc1 : l1.length ≤ c1) (h : spec_l7Sum.f k l0 l1 = some r) :
  Calls Try.prog 45 #[.slice A0 l0.length c0, .slice A1 l1.length c1] w fun e w' => ∃ v0_ : Value, e = .returned (v0_) ∧ Kd.R Kd.bool 4 w' w.heap.size (fun _ => True) v0_ r ∧ Below w.heap.size w w' := by
 have HR0 := aM hr0
 have HC0 := aM hc0
 clear hr0 hc0
 have HR1 := aM hr1
 have HC1 := aM hc1
 clear hr1 hc1
 have HB := aM (cE w.heap.size w)
 have H : (if 0 ≤ (l0.length : Int) then (if ((l0.length : Int) : Int).toNat ≤ 281474976710656 then (spec_l7Sum.l0 k l0 l1 (List.replicate ((l0.length : Int) : Int).toNat false) 0) else (none)) else (none)) = some r := h
 clear h
 by_cases c3 : 0 ≤ (l0.length : Int)
 ·rw [if_pos c3] at H
  have c3b0 := eq_true c3
  have c3b1 : decide (0 ≤ (l0.length : Int)) = true := aH c3
  clear c3
  by_cases c4 : ((l0.length : Int) : Int).toNat ≤ 281474976710656
  ·rw [if_pos c4] at H
   have c4b0 := eq_true c4
   have c4b1 : decide (((l0.length : Int) : Int).toNat ≤ 281474976710656) = true := aH c4
   clear c4
   obtain ⟨y175, hy175⟩ : ∃ y_ : List Bool, y_ = (List.replicate ((l0.length : Int) : Int).toNat false) := ⟨_, rfl⟩
   replace H : (spec_l7Sum.l0 k l0 l1 y175 0) = some r := by first | (rw [hy175]; with_reducible exact H) | (have H2_ := (bR _ _).symm.trans H; rw [hy175]; with_reducible exact H2_) | (have H2_ := (bR _ _).symm.trans H; with_reducible exact H2_) | with_reducible exact H | (rw [hy175]; exact H) | exact H
   have Ny175 := aM hy175
   clear hy175
   have H' := aM H
   clear H
   go_enter Try.func45, Try.ntmps45
   go_wp2_with (first | ((with_reducible refine aZ (N := 10) rfl ?_); refine Kd.R_make Kd.bool _ 4 rfl (N := 10) rfl 52 _ _ rfl (l0.length : Int) rfl rfl Try.underlying52 (.bool false) 1 info4 rfl (by decide) (by omega) false (ok := fun _ => True) (okp := fun _ => True) rfl (fun _ hk => hk) trivial (aJ (by first | (with_reducible assumption) | assumption)) (Nat.le_trans (Nat.mul_le_mul_right _ (aJ (by first | (with_reducible assumption) | assumption) : (l0.length : Int).toNat ≤ 281474976710656)) (by omega)) (cE _ _) (cD _) ?_; intro v176 w5 ho6 hb hg_ hnew_; clear hg_ hnew_; (first | rw [← Ny175.out] at ho6 | (simp only [Int.reduceToNat] at ho6; rw [← Ny175.out] at ho6)); have n0_ := aM (bP ho6 (aG (by repeat (first | (with_reducible first | exact HB.out | apply bA | apply bN | apply b1) | exact HB.out)))); have n1_ := aM (aE (by repeat (first | (with_reducible first | exact HB.out | apply bA | apply bN | apply b1) | exact HB.out)) hb); clear HB; have HO177 := n0_; have HB := n1_; clear n0_ n1_; clear hb ho6))
   go_loopg [6] k (fun kq v6 w' => ∃ (x5_1 : List Bool) (x6_1 : Int), v6 = .int .i64 x6_1 ∧ Aside0 (spec_l7Sum.l0 kq l0 l1 x5_1 x6_1 = some r) ∧ Aside0 (kq ≤ k) ∧ Aside0 (Kd.R Kd.bool 4 w' w.heap.size (fun _ => True) v176 x5_1) ∧ Aside0 (Below w.heap.size w w'))
   case atStart => exact ⟨(y175), (0), (by first | rfl | (simp; done) | (simp [*]; done) | (simp [Int.tmod_eq_emod_of_nonneg]; done)), H', ⟨cD _⟩, ⟨by (with_reducible repeat (first | apply rA | apply rN | apply rD)); exact HO177.out⟩, ⟨by repeat (first | (with_reducible first | exact HB.out | apply bA | apply bN | apply b1) | exact HB.out)⟩⟩
   case round =>
    clear H'
    try clear c1
    try clear p2
    try clear c3
    try clear c3b0
    try clear c3b1
    try clear c4
    try clear c4b0
    try clear c4b1
    obtain ⟨x5_1, x6_1, rfl, HA, HK1, HO_5, HB⟩ := hrel
    cases gk with
    | zero => exact absurd HA.out (by simp [spec_l7Sum.l0])
    | succ k1 =>
     have H := HA.out
     clear HA
     simp only [spec_l7Sum.l0] at H
     by_cases c7 : x6_1 < (l0.length : Int)
     ·rw [if_pos c7] at H
      have c7b0 : decide (x6_1 < (l0.length : Int)) = true := aH c7
      clear c7
      have H' := aM H
      clear H
      go_wp2
      go_loopg [7] k1 (fun kq v7 w' => ∃ (x5_2 : List Bool) (x7_2 : Int), v7 = .int .i64 x7_2 ∧ Aside0 (spec_l7Sum.l1 kq l0 l1 x5_2 x6_1 x7_2 = some r) ∧ Aside0 (kq ≤ k1) ∧ Aside0 (Kd.R Kd.bool 4 w' w.heap.size (fun _ => True) v176 x5_2) ∧ Aside0 (Below w.heap.size w w'))
      case atStart => exact ⟨(x5_1), (0), (by first | rfl | (simp; done) | (simp [*]; done) | (simp [Int.tmod_eq_emod_of_nonneg]; done)), H', ⟨cD _⟩, ⟨by (with_reducible repeat (first | apply rA | apply rN | apply rD)); exact HO_5.out⟩, ⟨by repeat (first | (with_reducible first | exact HB.out | apply bA | apply bN | apply b1) | exact HB.out)⟩⟩
      case round =>
       clear H'
       try clear c1
       try clear p2
       try clear c3
       try clear c3b0
       try clear c3b1
       try clear c4
       try clear c4b0
       try clear c4b1
       try clear c7
       try clear c7b0
       try clear p2
       obtain ⟨x5_2, x7_2, rfl, HA, HK2, HO_5, HB⟩ := hrel
       cases gk with
       | zero => exact absurd HA.out (by simp [spec_l7Sum.l1])
       | succ k2 =>
        have H := HA.out
        clear HA
        simp only [spec_l7Sum.l1] at H
        by_cases c8 : (wrap64 (x6_1 + x7_2)) < (l0.length : Int)
        ·rw [if_pos c8] at H
         have c8b0 : decide ((wrap64 (x6_1 + x7_2)) < (l0.length : Int)) = true := aH c8
         clear c8
         by_cases c9 : 0 ≤ x6_1
         ·rw [if_pos c9] at H
          have c9b0 : decide (0 ≤ x6_1) = true := aH c9
          clear c9
          by_cases c10 : x6_1 < (l0.length : Int)
          ·rw [if_pos c10] at H
           have c10b0 : decide (x6_1 < (l0.length : Int)) = true := aH c10
           clear c10
           obtain ⟨bq11, hbq11⟩ : ∃ b_ : Bool, b_ = (rdOf false l0 x6_1) := ⟨_, rfl⟩
           replace H : (if bq11 = true then (if 0 ≤ (wrap64 (x6_1 + x7_2)) then (if (wrap64 (x6_1 + x7_2)) < (x5_2.length : Int) then (if rdOf false x5_2 (wrap64 (x6_1 + x7_2)) = true then (spec_l7Sum.l1 k2 l0 l1 (x5_2.set ((wrap64 (x6_1 + x7_2)) : Int).toNat true) x6_1 (wrap64 (x7_2 + 1))) else (if 0 ≤ x7_2 then (if x7_2 < (l1.length : Int) then (spec_l7Sum.l1 k2 l0 l1 (x5_2.set ((wrap64 (x6_1 + x7_2)) : Int).toNat (rdOf false l1 x7_2)) x6_1 (wrap64 (x7_2 + 1))) else (none)) else (none))) else (none)) else (none)) else (spec_l7Sum.l0 k2 l0 l1 x5_2 (wrap64 (x6_1 + 1)))) = some r := by rw [← hbq11] at H; exact H
           have Nbq11 := aM hbq11
           clear hbq11
           by_cases c12 : bq11 = true
           ·subst c12
            have H1 : (if 0 ≤ (wrap64 (x6_1 + x7_2)) then (if (wrap64 (x6_1 + x7_2)) < (x5_2.length : Int) then (if rdOf false x5_2 (wrap64 (x6_1 + x7_2)) = true then (spec_l7Sum.l1 k2 l0 l1 (x5_2.set ((wrap64 (x6_1 + x7_2)) : Int).toNat true) x6_1 (wrap64 (x7_2 + 1))) else (if 0 ≤ x7_2 then (if x7_2 < (l1.length : Int) then (spec_l7Sum.l1 k2 l0 l1 (x5_2.set ((wrap64 (x6_1 + x7_2)) : Int).toNat (rdOf false l1 x7_2)) x6_1 (wrap64 (x7_2 + 1))) else (none)) else (none))) else (none)) else (none)) = some r := by rw [if_pos rfl] at H; exact H
            clear H
            have H := H1
            clear H1
            obtain ⟨ji13, hji13⟩ : ∃ j_ : Int, (wrap64 (x6_1 + x7_2)) = j_ := ⟨_, rfl⟩
            replace H : (if 0 ≤ (ji13) then (if (ji13) < (x5_2.length : Int) then (if rdOf false x5_2 (ji13) = true then (spec_l7Sum.l1 k2 l0 l1 (x5_2.set ((ji13) : Int).toNat true) x6_1 (wrap64 (x7_2 + 1))) else (if 0 ≤ x7_2 then (if x7_2 < (l1.length : Int) then (spec_l7Sum.l1 k2 l0 l1 (x5_2.set ((ji13) : Int).toNat (rdOf false l1 x7_2)) x6_1 (wrap64 (x7_2 + 1))) else (none)) else (none))) else (none)) else (none)) = some r := by first | (rw [hji13] at H; exact H) | (simp only [hji13] at H ⊢; exact H)
            (try rw [hji13] at c8b0)
            have hji13w : (IntKind.i64.wrap (x6_1 + x7_2)) = ji13 := (cS _).trans hji13
            by_cases c14 : 0 ≤ (ji13)
            ·rw [if_pos c14] at H
             have c14b0 : decide (0 ≤ (ji13)) = true := aH c14
             clear c14
             by_cases c15 : (ji13) < (x5_2.length : Int)
             ·rw [if_pos c15] at H
              have c15b0 : decide ((ji13) < (x5_2.length : Int)) = true := aH c15
              clear c15
              obtain ⟨bq16, hbq16⟩ : ∃ b_ : Bool, b_ = (rdOf false x5_2 (ji13)) := ⟨_, rfl⟩
              replace H : (if bq16 = true then (spec_l7Sum.l1 k2 l0 l1 (x5_2.set ((ji13) : Int).toNat true) x6_1 (wrap64 (x7_2 + 1))) else (if 0 ≤ x7_2 then (if x7_2 < (l1.length : Int) then (spec_l7Sum.l1 k2 l0 l1 (x5_2.set ((ji13) : Int).toNat (rdOf false l1 x7_2)) x6_1 (wrap64 (x7_2 + 1))) else (none)) else (none))) = some r := by rw [← hbq16] at H; exact H
              have Nbq16 := aM hbq16
              clear hbq16
              by_cases c17 : bq16 = true
              ·subst c17
               have H1 : (spec_l7Sum.l1 k2 l0 l1 (x5_2.set ((ji13) : Int).toNat true) x6_1 (wrap64 (x7_2 + 1))) = some r := by rw [if_pos rfl] at H; exact H
               clear H
               have H := H1
               clear H1
               obtain ⟨y180, hy180⟩ : ∃ y_ : List Bool, y_ = (x5_2.set ((ji13) : Int).toNat true) := ⟨_, rfl⟩
               replace H : (spec_l7Sum.l1 k2 l0 l1 y180 x6_1 (wrap64 (x7_2 + 1))) = some r := by first | (rw [hy180]; with_reducible exact H) | (have H2_ := (bR _ _).symm.trans H; rw [hy180]; with_reducible exact H2_) | (have H2_ := (bR _ _).symm.trans H; with_reducible exact H2_) | with_reducible exact H | (rw [hy180]; exact H) | exact H
               have Ny180 := aM hy180
               clear hy180
               have H' := aM H
               clear H
               have p178 : 0 ≤ (x6_1 : Int) := aJ (by first | (with_reducible assumption) | assumption)
               have q178 : x6_1 < (l0.length : Int) := aJ (by first | (with_reducible assumption) | assumption)
               obtain ⟨ad178, e178, hx178_0⟩ := Kd.at_bool HR0.out x6_1 p178 q178
               (try rw [← Nbq11.out] at hx178_0)
               (try rw [← Nbq16.out] at hx178_0)
               cases e178
               replace hx178_0 := (HB.out.cell (World.block_lt_of_cell? w _ hx178_0)).trans hx178_0
               replace p178 := eq_true p178
               replace q178 := eq_true q178
               obtain ⟨Ao19, co19, eo19⟩ := bL HO_5.out
               subst eo19
               have p179 : 0 ≤ ((ji13) : Int) := aJ (by first | (with_reducible assumption) | assumption)
               have q179 : (ji13) < (x5_2.length : Int) := aJ (by first | (with_reducible assumption) | assumption)
               obtain ⟨ad179, e179, hx179_0⟩ := Kd.at_bool (bM HO_5.out).2.2 (ji13) p179 q179
               (try rw [← Nbq11.out] at hx179_0)
               (try rw [← Nbq16.out] at hx179_0)
               cases e179
               replace p179 := eq_true p179
               replace q179 := eq_true q179
               have p18 : 0 ≤ ((ji13) : Int) := aJ (by first | (with_reducible assumption) | assumption)
               have q18 : ((ji13) : Int) < ((x5_2.length : Int) : Int) := aJ (by first | (with_reducible assumption) | assumption)
               obtain ⟨go18, co18, eo18, gb18, gl18, cl18, HG18⟩ := cQ HO_5.out (by omega)
               (first | cases eo18 | (injection eo18 with ea_ en_ ec_; (first | subst ea_ | (injection ea_ with ea_; subst ea_)); subst ec_; clear en_))
               have GB18 := aM gb18
               have GG18 := aM HG18
               clear gb18 gl18 HG18
               (first | simp only [add_plain] at hx179_0 | skip)
               obtain ⟨hx18_0, hf18_0⟩ := Kd.R_celln false HO_5.out ((ji13) : Int) p18 q18
               replace p18 := eq_true p18
               replace q18 := eq_true q18
               have HP20 := Kd.R_putg HO_5.out ((ji13) : Int) true
               go_wp2_with (first | ((with_reducible refine gate_store (t := 4) (p := 47) rfl ?_); refine store_event (t := 4) (p := 47) (v := ?vo_w21) (w1 := (wr.setCell ⟨go18, ((ji13) : Int).toNat, none⟩ (.bool true))) ?hg ?ho ?hn ?hr ?_; (case ho => rfl); (case hg => rfl); (case hn => rfl); (case hr => first | (go_simp; done) | (go_simp; rfl)); intro w21 hw; have hg : wr.grownBy w21 (some go18) := (by rw [hw]; exact HP20.2); have hp_ : Kd.R Kd.bool 4 w21 w.heap.size (fun _ => True) (.slice (some ⟨go18, 0, none⟩) x5_2.length co19) y180 := (by rw [hw, Ny180.out]; exact HP20.1); clear HP20; have n0_ := aM (hp_); have n1_ := aM ((by rw [hw]; exact bS (HB.out) GB18.out : Below w.heap.size w w21)); clear HO_5; clear HB; have HO_5 := n0_; have HB := n1_; clear n0_ n1_; clear hg hw hp_))
               go_roundg k2
               case measure => have := HK1.out; have := HK2.out; omega
               case rel => exact ⟨(y180), (wrap64 (x7_2 + 1)), (by first | rfl | (simp; done) | (simp [*]; done) | (simp [Int.tmod_eq_emod_of_nonneg]; done)), H', ⟨by have := HK1.out; have := HK2.out; omega⟩, ⟨by (with_reducible repeat (first | apply rA | apply rN | apply rD)); exact HO_5.out⟩, ⟨by repeat (first | (with_reducible first | exact HB.out | apply bA | apply bN | apply b1) | exact HB.out)⟩⟩
              ·replace c17 := Bool.eq_false_iff.mpr c17
               subst c17
               have H1 : (if 0 ≤ x7_2 then (if x7_2 < (l1.length : Int) then (spec_l7Sum.l1 k2 l0 l1 (x5_2.set ((ji13) : Int).toNat (rdOf false l1 x7_2)) x6_1 (wrap64 (x7_2 + 1))) else (none)) else (none)) = some r := by rw [if_neg (show ¬ (false = true) by decide)] at H; exact H
               clear H
               have H := H1
               clear H1
               by_cases c22 : 0 ≤ x7_2
               ·rw [if_pos c22] at H
                have c22b0 : decide (0 ≤ x7_2) = true := aH c22
                clear c22
                by_cases c23 : x7_2 < (l1.length : Int)
                ·rw [if_pos c23] at H
                 have c23b0 : decide (x7_2 < (l1.length : Int)) = true := aH c23
                 clear c23
                 obtain ⟨y182, hy182⟩ : ∃ y_ : List Bool, y_ = (x5_2.set ((ji13) : Int).toNat (rdOf false l1 x7_2)) := ⟨_, rfl⟩
                 replace H : (spec_l7Sum.l1 k2 l0 l1 y182 x6_1 (wrap64 (x7_2 + 1))) = some r := by first | (rw [hy182]; with_reducible exact H) | (have H2_ := (bR _ _).symm.trans H; rw [hy182]; with_reducible exact H2_) | (have H2_ := (bR _ _).symm.trans H; with_reducible exact H2_) | with_reducible exact H | (rw [hy182]; exact H) | exact H
                 have Ny182 := aM hy182
                 clear hy182
                 have H' := aM H
                 clear H
                 have p178 : 0 ≤ (x6_1 : Int) := aJ (by first | (with_reducible assumption) | assumption)
                 have q178 : x6_1 < (l0.length : Int) := aJ (by first | (with_reducible assumption) | assumption)
                 obtain ⟨ad178, e178, hx178_0⟩ := Kd.at_bool HR0.out x6_1 p178 q178
                 (try rw [← Nbq11.out] at hx178_0)
                 (try rw [← Nbq16.out] at hx178_0)
                 cases e178
                 replace hx178_0 := (HB.out.cell (World.block_lt_of_cell? w _ hx178_0)).trans hx178_0
                 replace p178 := eq_true p178
                 replace q178 := eq_true q178
                 obtain ⟨Ao25, co25, eo25⟩ := bL HO_5.out
                 subst eo25
                 have p179 : 0 ≤ ((ji13) : Int) := aJ (by first | (with_reducible assumption) | assumption)
                 have q179 : (ji13) < (x5_2.length : Int) := aJ (by first | (with_reducible assumption) | assumption)
                 obtain ⟨ad179, e179, hx179_0⟩ := Kd.at_bool (bM HO_5.out).2.2 (ji13) p179 q179
                 (try rw [← Nbq11.out] at hx179_0)
                 (try rw [← Nbq16.out] at hx179_0)
                 cases e179
                 replace p179 := eq_true p179
                 replace q179 := eq_true q179
                 have p181 : 0 ≤ (x7_2 : Int) := aJ (by first | (with_reducible assumption) | assumption)
                 have q181 : x7_2 < (l1.length : Int) := aJ (by first | (with_reducible assumption) | assumption)
                 obtain ⟨ad181, e181, hx181_0⟩ := Kd.at_bool HR1.out x7_2 p181 q181
                 (try rw [← Nbq11.out] at hx181_0)
                 (try rw [← Nbq16.out] at hx181_0)
                 cases e181
                 replace hx181_0 := (HB.out.cell (World.block_lt_of_cell? w _ hx181_0)).trans hx181_0
                 replace p181 := eq_true p181
                 replace q181 := eq_true q181
                 have p24 : 0 ≤ ((ji13) : Int) := aJ (by first | (with_reducible assumption) | assumption)
                 have q24 : ((ji13) : Int) < ((x5_2.length : Int) : Int) := aJ (by first | (with_reducible assumption) | assumption)
                 obtain ⟨go24, co24, eo24, gb24, gl24, cl24, HG24⟩ := cQ HO_5.out (by omega)
                 (first | cases eo24 | (injection eo24 with ea_ en_ ec_; (first | subst ea_ | (injection ea_ with ea_; subst ea_)); subst ec_; clear en_))
                 have GB24 := aM gb24
                 have GG24 := aM HG24
                 clear gb24 gl24 HG24
                 (first | simp only [add_plain] at hx179_0 | skip)
                 obtain ⟨hx24_0, hf24_0⟩ := Kd.R_celln false HO_5.out ((ji13) : Int) p24 q24
                 replace p24 := eq_true p24
                 replace q24 := eq_true q24
                 have HP26 := Kd.R_putg HO_5.out ((ji13) : Int) (rdOf false l1 x7_2)
                 go_wp2_with (first | ((with_reducible refine gate_store (t := 4) (p := 47) rfl ?_); refine store_event (t := 4) (p := 47) (v := ?vo_w27) (w1 := (wr.setCell ⟨go24, ((ji13) : Int).toNat, none⟩ (.bool (rdOf false l1 x7_2)))) ?hg ?ho ?hn ?hr ?_; (case ho => rfl); (case hg => rfl); (case hn => rfl); (case hr => first | (go_simp; done) | (go_simp; rfl)); intro w27 hw; have hg : wr.grownBy w27 (some go24) := (by rw [hw]; exact HP26.2); have hp_ : Kd.R Kd.bool 4 w27 w.heap.size (fun _ => True) (.slice (some ⟨go24, 0, none⟩) x5_2.length co25) y182 := (by rw [hw, Ny182.out]; exact HP26.1); clear HP26; have n0_ := aM (hp_); have n1_ := aM ((by rw [hw]; exact bS (HB.out) GB24.out : Below w.heap.size w w27)); clear HO_5; clear HB; have HO_5 := n0_; have HB := n1_; clear n0_ n1_; clear hg hw hp_))
                 go_roundg k2
                 case measure => have := HK1.out; have := HK2.out; omega
                 case rel => exact ⟨(y182), (wrap64 (x7_2 + 1)), (by first | rfl | (simp; done) | (simp [*]; done) | (simp [Int.tmod_eq_emod_of_nonneg]; done)), H', ⟨by have := HK1.out; have := HK2.out; omega⟩, ⟨by (with_reducible repeat (first | apply rA | apply rN | apply rD)); exact HO_5.out⟩, ⟨by repeat (first | (with_reducible first | exact HB.out | apply bA | apply bN | apply b1) | exact HB.out)⟩⟩
                ·rw [if_neg c23] at H
                 exact absurd H (by simp)
               ·rw [if_neg c22] at H
                exact absurd H (by simp)
             ·rw [if_neg c15] at H
              exact absurd H (by simp)
            ·rw [if_neg c14] at H
             exact absurd H (by simp)
           ·replace c12 := Bool.eq_false_iff.mpr c12
            subst c12
            have H1 : (spec_l7Sum.l0 k2 l0 l1 x5_2 (wrap64 (x6_1 + 1))) = some r := by rw [if_neg (show ¬ (false = true) by decide)] at H; exact H
            clear H
            have H := H1
            clear H1
            have H' := aM H
            clear H
            have p178 : 0 ≤ (x6_1 : Int) := aJ (by first | (with_reducible assumption) | assumption)
            have q178 : x6_1 < (l0.length : Int) := aJ (by first | (with_reducible assumption) | assumption)
            obtain ⟨ad178, e178, hx178_0⟩ := Kd.at_bool HR0.out x6_1 p178 q178
            (try rw [← Nbq11.out] at hx178_0)
            cases e178
            replace hx178_0 := (HB.out.cell (World.block_lt_of_cell? w _ hx178_0)).trans hx178_0
            replace p178 := eq_true p178
            replace q178 := eq_true q178
            go_wp2
            go_roundg k2
            case measure => have := HK1.out; have := HK2.out; omega
            case rel => exact ⟨(x5_2), (wrap64 (x6_1 + 1)), (by first | rfl | (simp; done) | (simp [*]; done) | (simp [Int.tmod_eq_emod_of_nonneg]; done)), H', ⟨by have := HK1.out; have := HK2.out; omega⟩, ⟨by (with_reducible repeat (first | apply rA | apply rN | apply rD)); exact HO_5.out⟩, ⟨by repeat (first | (with_reducible first | exact HB.out | apply bA | apply bN | apply b1) | exact HB.out)⟩⟩
          ·rw [if_neg c10] at H
           exact absurd H (by simp)
         ·rw [if_neg c9] at H
          exact absurd H (by simp)
        ·rw [if_neg c8] at H
         have c8b0 : decide ((wrap64 (x6_1 + x7_2)) < (l0.length : Int)) = false := aK c8
         clear c8
         have H' := aM H
         clear H
         go_wp2
         go_roundg k2
         case measure => have := HK1.out; have := HK2.out; omega
         case rel => exact ⟨(x5_2), (wrap64 (x6_1 + 1)), (by first | rfl | (simp; done) | (simp [*]; done) | (simp [Int.tmod_eq_emod_of_nonneg]; done)), H', ⟨by have := HK1.out; have := HK2.out; omega⟩, ⟨by (with_reducible repeat (first | apply rA | apply rN | apply rD)); exact HO_5.out⟩, ⟨by repeat (first | (with_reducible first | exact HB.out | apply bA | apply bN | apply b1) | exact HB.out)⟩⟩
     ·rw [if_neg c7] at H
      have c7b0 : decide (x6_1 < (l0.length : Int)) = false := aK c7
      clear c7
      obtain rfl := bU H
      go_wp2
      go_ret
      exact ⟨_, by first | rfl | (simp [errW_none, errW_some] <;> rfl) | (simp [errW_none, errW_some]; exact ⟨rfl, rfl⟩) | (simp [errW_none, errW_some]; exact ⟨rfl, rfl, rfl⟩) | (simp [*, errW_none, errW_some] <;> rfl), by (with_reducible repeat (first | apply rA | apply rN | apply rD)); exact HO_5.out, by repeat (first | (with_reducible first | exact HB.out | apply bA | apply bN | apply b1) | exact HB.out)⟩
  ·rw [if_neg c4] at H
   exact absurd H (by simp)
 ·rw [if_neg c3] at H
  exact absurd H (by simp)

end Go.Proofs.Ytedhckahjinieaa.Q
