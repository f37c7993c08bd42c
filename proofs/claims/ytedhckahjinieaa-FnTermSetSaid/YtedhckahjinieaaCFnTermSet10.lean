/- A term tells its set; no condition beyond the statement's own. -/
import Derived.Test.YtedhckahjinieaaCFnTermSet8
import Derived.Test.YtedhckahjinieaaCFnTermSet9
namespace Go.Proofs.Ytedhckahjinieaa.Q
open Go.RowKit Go.Proofs.YtedhckahjinieaaW.PrintWords Go.Proofs.YtedhckahjinieaaW.PrintLast Go.Proofs.YtedhckahjinieaaW.PrintMore
attribute [local go_sem] max2_int max_two
set_option linter.unusedVariables false
set_option linter.unusedSimpArgs false
/-- The reference's tree of a term (the terms are those of impl_parse.calls). -/
def Tm.toS : Tm → S49
 | .leaf c => ⟨c, []⟩
 | .un c a => ⟨c, [a.toS]⟩
 | .bin c a b => ⟨c, [a.toS, b.toS]⟩
/-- A row of one or two trees, out of its cells. -/
theorem spec_l7Read.row1 {w : World} {h : Nat} {x : S49} {A : Option Addr} {m : Nat} {cs : Array Value} (hb : w.heap[h]? = some (.cells cs 49 (0, 0))) (e0 : cs[0]? = some (.int .u8 x.f0)) (e1 : cs[1]? = some (.slice A x.f1.length m)) (l : x.f1.length ≤ m) (hc : k49.C w A x.f1.length x.f1) : k49.C w (some ⟨h, 0, none⟩) 1 [x] := by
 refine ⟨rfl, by decide, fun _ => ⟨_, rfl, fun j p hj => ?_⟩⟩
 have hk := k49_mk w x l hc
 cases j with
 | zero =>
  obtain rfl : x = p := by simpa using hj
  refine ⟨_, rfl, hk, fun i u hi => ?_⟩
  rw [show (⟨h, 0, none⟩ : Addr).add (0 * k49.sz + i) = ⟨h, i, none⟩ by rw [Nat.zero_mul, Nat.zero_add, add_plain], aA hb]
  match i, hi with
  | 0, hi => rw [e0]; simpa using hi
  | 1, hi => rw [e1]; simpa using hi
  | i + 2, hi => simp at hi
 | succ j => simp at hj
theorem spec_l7Read.row2 {w : World} {h : Nat} {x y : S49} {A B : Option Addr} {m n : Nat} {cs : Array Value} (hb : w.heap[h]? = some (.cells cs 49 (0, 0))) (e0 : cs[0]? = some (.int .u8 x.f0)) (e1 : cs[1]? = some (.slice A x.f1.length m)) (e2 : cs[2]? = some (.int .u8 y.f0)) (e3 : cs[3]? = some (.slice B y.f1.length n)) (l : x.f1.length ≤ m) (l2 : y.f1.length ≤ n) (hc : k49.C w A x.f1.length x.f1) (hc2 : k49.C w B y.f1.length y.f1) : k49.C w (some ⟨h, 0, none⟩) 2 [x, y] := by
 have hsz : k49.sz = 2 := rfl
 refine ⟨rfl, by decide, fun _ => ⟨_, rfl, fun j p hj => ?_⟩⟩
 match j, hj with
 | 0, hj =>
  obtain rfl : x = p := by simpa using hj
  refine ⟨_, rfl, k49_mk w x l hc, fun i u hi => ?_⟩
  rw [show (⟨h, 0, none⟩ : Addr).add (0 * k49.sz + i) = ⟨h, i, none⟩ by rw [Nat.zero_mul, Nat.zero_add, add_plain], aA hb]
  match i, hi with
  | 0, hi => rw [e0]; simpa using hi
  | 1, hi => rw [e1]; simpa using hi
  | i + 2, hi => simp at hi
 | 1, hj =>
  obtain rfl : y = p := by simpa using hj
  refine ⟨_, rfl, k49_mk w y l2 hc2, fun i u hi => ?_⟩
  rw [show (⟨h, 0, none⟩ : Addr).add (1 * k49.sz + i) = ⟨h, 2 + i, none⟩ by rw [Nat.one_mul, hsz, add_plain], aA hb]
  match i, hi with
  | 0, hi => rw [e2]; simpa using hi
  | 1, hi => rw [e3]; simpa using hi
  | i + 2, hi => simp at hi
 | j + 2, hj => simp at hj
/-- What a call hands back: a tree's cells, and the place behind it; P says what is known of the cells. -/
def spec_l7Read.Hands (P : Nat → Nat → World → Int → Option Addr → Nat → Nat → Prop) (z : Int) (w : World) (e : Ending) (w' : World) : Prop := ∃ f A n m, e = .returned (.tuple #[.agg #[.int .u8 f, .slice A n m], .int .i64 z]) ∧ P w.heap.size w'.heap.size w' f A n m ∧ Below w.heap.size w w'
theorem spec_l7Read.new2 (w : World) (a b : Obj) (n : Nat) (hn : n = w.heap.size + 1) : ((w.alloc a).alloc b).heap[n]? = some b := by
 have := blk_new (w.alloc a) b
 rw [bW, ← hn] at this
 exact this
theorem spec_l7Read.start (w : World) : (((w.alloc (.cells #[.int .u8 0, .slice none 0 0] 49)).alloc (.cells #[] 49)).alloc (.cells #[.int .u8 48, .slice (some ⟨w.heap.size + 1, 0, none⟩) 0 0] 49)).heap[w.heap.size]? = some (.cells #[.int .u8 0, .slice none 0 0] 49) ∧ (((w.alloc (.cells #[.int .u8 0, .slice none 0 0] 49)).alloc (.cells #[] 49)).alloc (.cells #[.int .u8 48, .slice (some ⟨w.heap.size + 1, 0, none⟩) 0 0] 49)).heap[w.heap.size + 1 + 1]? = some (.cells #[.int .u8 48, .slice (some ⟨w.heap.size + 1, 0, none⟩) 0 0] 49) ∧ Below w.heap.size w (((w.alloc (.cells #[.int .u8 0, .slice none 0 0] 49)).alloc (.cells #[] 49)).alloc (.cells #[.int .u8 48, .slice (some ⟨w.heap.size + 1, 0, none⟩) 0 0] 49)) := by
 refine ⟨kA (kA (blk_new w _) _) _, ?_, bA (bA (bA (cE _ _) _) _) _⟩
 have := blk_new ((w.alloc (.cells #[.int .u8 0, .slice none 0 0] 49)).alloc (.cells #[] 49)) (.cells #[.int .u8 48, .slice (some ⟨w.heap.size + 1, 0, none⟩) 0 0] 49)
 rw [show ((w.alloc (.cells #[.int .u8 0, .slice none 0 0] 49)).alloc (.cells #[] 49)).heap.size = w.heap.size + 1 + 1 by rw [bW, bW]] at this
 exact this
set_option maxHeartbeats 4000000 in
set_option maxRecDepth 100000 in
theorem spec_l7Read.past (s : ByteArray) (p : Nat) (w : World) (h : ¬ p < s.size) :
  Calls Try.prog 43 #[.string s, .int .i64 p] w (spec_l7Read.Hands (fun _ _ _ _ _ _ _ => True) 0 w) := by
 have hl : (s.size : Int) ≤ (p : Int) := by omega
 have hl2 : decide ((s.size : Int) ≤ (p : Int)) = true := aH hl
 go_enter Try.func43, Try.ntmps43
 go_wp2
 refine cF (cG rfl _ _ w.heap.size 49 (#[.int .u8 48, .slice (some ⟨w.heap.size + 1, 0, none⟩) 0 0]) (0, 0) _ rfl ?hg Try.underlying49 rfl (by kernel_rfl)) rfl ?_; (case hg => repeat (first | with_reducible exact blk_new _ _ | with_reducible refine kA ?_ _))
 exact ⟨_, _, _, _, rfl, trivial, by repeat (first | with_reducible exact cE _ _ | with_reducible apply bA)⟩
set_option maxHeartbeats 4000000 in
set_option maxRecDepth 100000 in
theorem spec_l7Read.leaf (s : ByteArray) (p : Nat) (w : World) (h : p < s.size) (hs : s.size ≤ 1000) (c : Int) (hc : bt s p = c) (h1 : c = 48 ∨ c = 49 ∨ c = 97) :
  Calls Try.prog 43 #[.string s, .int .i64 p] w (spec_l7Read.Hands (fun _ _ _ f _ n _ => f = c ∧ n = 0) ((p : Int) + 1) w) := by
 have hl : ¬ (s.size : Int) ≤ (p : Int) := by omega
 have hl2 : decide ((s.size : Int) ≤ (p : Int)) = false := aK hl
 have hx : ∀ h : p < s.size, ((s[p]'h).toNat : Int) = c := fun h' => by rw [← hc]; exact bt_at s (p : Int) h'
 have hw : wrap64 ((p : Int) + 1) = ((p + 1 : Nat) : Int) := by unfold wrap64; omega
 have hrg := bt_range s (p : Int)
 clear hc hrg
 rcases h1 with rfl | rfl | rfl
 ·go_enter Try.func43, Try.ntmps43
  go_wp2
  refine cF (cG rfl _ _ w.heap.size 49 (#[.int .u8 48, .slice (some ⟨w.heap.size + 1 + 1 + 1, 0, none⟩) 0 0]) (0, 0) _ rfl ?hg Try.underlying49 rfl (by kernel_rfl)) rfl ?_; (case hg => repeat (first | with_reducible exact blk_new _ _ | with_reducible refine kA ?_ _))
  exact ⟨_, _, _, _, rfl, ⟨rfl, rfl⟩, by repeat (first | with_reducible exact cE _ _ | with_reducible apply bA)⟩
 ·go_enter Try.func43, Try.ntmps43
  go_wp2
  refine cF (cG rfl _ _ w.heap.size 49 (#[.int .u8 49, .slice (some ⟨w.heap.size + 1 + 1 + 1, 0, none⟩) 0 0]) (0, 0) _ rfl ?hg Try.underlying49 rfl (by kernel_rfl)) rfl ?_; (case hg => repeat (first | with_reducible exact blk_new _ _ | with_reducible refine kA ?_ _))
  exact ⟨_, _, _, _, rfl, ⟨rfl, rfl⟩, by repeat (first | with_reducible exact cE _ _ | with_reducible apply bA)⟩
 ·go_enter Try.func43, Try.ntmps43
  go_wp2
  refine cF (cG rfl _ _ w.heap.size 49 (#[.int .u8 97, .slice (some ⟨w.heap.size + 1 + 1 + 1, 0, none⟩) 0 0]) (0, 0) _ rfl ?hg Try.underlying49 rfl (by kernel_rfl)) rfl ?_; (case hg => repeat (first | with_reducible exact blk_new _ _ | with_reducible refine kA ?_ _))
  exact ⟨_, _, _, _, rfl, ⟨rfl, rfl⟩, by repeat (first | with_reducible exact cE _ _ | with_reducible apply bA)⟩
set_option maxHeartbeats 4000000 in
set_option maxRecDepth 100000 in
theorem spec_l7Read.bad (s : ByteArray) (p : Nat) (w : World) (h : p < s.size) (hs : s.size ≤ 1000) (c : Int) (hc : bt s p = c) (h1 : ¬ (c = 48 ∨ c = 49 ∨ c = 97)) (h2 : ¬ (c = 42 ∨ (50 ≤ c ∧ c ≤ 53))) (h3 : ¬ c = 40) :
  Calls Try.prog 43 #[.string s, .int .i64 p] w (spec_l7Read.Hands (fun _ _ _ _ _ _ _ => True) 0 w) := by
 have hl : ¬ (s.size : Int) ≤ (p : Int) := by omega
 have hl2 : decide ((s.size : Int) ≤ (p : Int)) = false := aK hl
 have hx : ∀ h : p < s.size, ((s[p]'h).toNat : Int) = c := fun h' => by rw [← hc]; exact bt_at s (p : Int) h'
 have hw : wrap64 ((p : Int) + 1) = ((p + 1 : Nat) : Int) := by unfold wrap64; omega
 have hrg := bt_range s (p : Int)
 have n48 : (c == 48) = false := beq_eq_false_iff_ne.mpr (by omega)
 have n49 : (c == 49) = false := beq_eq_false_iff_ne.mpr (by omega)
 have n97 : (c == 97) = false := beq_eq_false_iff_ne.mpr (by omega)
 have n42 : (c == 42) = false := beq_eq_false_iff_ne.mpr (by omega)
 have n40 : (c == 40) = false := beq_eq_false_iff_ne.mpr (by omega)
 have m40 : (c != 40) = true := bne_iff_ne.mpr (by omega)
 by_cases g50 : 50 ≤ c
 ·have g53 : ¬ c ≤ 53 := by omega
  have l50 : decide (50 ≤ c) = true := aH g50
  have l53 : decide (c ≤ 53) = false := aK g53
  clear hc h1 h2 h3 hrg
  go_enter Try.func43, Try.ntmps43
  go_wp2
  refine cF (cG rfl _ _ w.heap.size 49 (#[.int .u8 48, .slice (some ⟨w.heap.size + 1, 0, none⟩) 0 0]) (0, 0) _ rfl ?hg Try.underlying49 rfl (by kernel_rfl)) rfl ?_; (case hg => repeat (first | with_reducible exact blk_new _ _ | with_reducible refine kA ?_ _))
  exact ⟨_, _, _, _, rfl, trivial, by repeat (first | with_reducible exact cE _ _ | with_reducible apply bA)⟩
 ·have l50 : decide (50 ≤ c) = false := aK g50
  clear hc h1 h2 h3 hrg
  go_enter Try.func43, Try.ntmps43
  go_wp2
  refine cF (cG rfl _ _ w.heap.size 49 (#[.int .u8 48, .slice (some ⟨w.heap.size + 1, 0, none⟩) 0 0]) (0, 0) _ rfl ?hg Try.underlying49 rfl (by kernel_rfl)) rfl ?_; (case hg => repeat (first | with_reducible exact blk_new _ _ | with_reducible refine kA ?_ _))
  exact ⟨_, _, _, _, rfl, trivial, by repeat (first | with_reducible exact cE _ _ | with_reducible apply bA)⟩
set_option maxHeartbeats 4000000 in
set_option maxRecDepth 100000 in
theorem spec_l7Read.un (s : ByteArray) (p : Nat) (w : World) (h : p < s.size) (hs : s.size ≤ 1000) (c : Int) (hc : bt s p = c) (h1 : c = 42 ∨ (50 ≤ c ∧ c ≤ 53)) (P : Nat → Nat → World → Int → Option Addr → Nat → Nat → Prop) (hP : ∀ lo hi W W' f A n m, P lo hi W f A n m → (∀ i, lo ≤ i → i < hi → W'.heap[i]? = W.heap[i]?) → P lo hi W' f A n m) (z : Int) (ih : ∀ W, Calls Try.prog 43 #[.string s, .int .i64 ((p : Int) + 1)] W (spec_l7Read.Hands P z W)) :
  Calls Try.prog 43 #[.string s, .int .i64 p] w (spec_l7Read.Hands (fun lo hi W f A n m => ∃ g f1 A1 n1 m1 lo1 hi1, f = c ∧ A = some ⟨g, 0, none⟩ ∧ n = 1 ∧ 1 ≤ m ∧ lo ≤ g ∧ g < hi ∧ lo ≤ lo1 ∧ hi1 ≤ hi ∧ W.heap[g]? = some (.cells #[.int .u8 f1, .slice A1 n1 m1] 49 (0, 0)) ∧ P lo1 hi1 W f1 A1 n1 m1) z w) := by
 have hl : ¬ (s.size : Int) ≤ (p : Int) := by omega
 have hl2 : decide ((s.size : Int) ≤ (p : Int)) = false := aK hl
 have hx : ∀ h : p < s.size, ((s[p]'h).toNat : Int) = c := fun h' => by rw [← hc]; exact bt_at s (p : Int) h'
 have hw : wrap64 ((p : Int) + 1) = ((p + 1 : Nat) : Int) := by unfold wrap64; omega
 have hrg := bt_range s (p : Int)
 have n48 : (c == 48) = false := beq_eq_false_iff_ne.mpr (by omega)
 have n49 : (c == 49) = false := beq_eq_false_iff_ne.mpr (by omega)
 have n97 : (c == 97) = false := beq_eq_false_iff_ne.mpr (by omega)
 have IH := aM ih
 clear ih
 by_cases g42 : c = 42
 all_goals
  first
  |have n42 : (c == 42) = true := beq_iff_eq.mpr g42
  |have n42 : (c == 42) = false := beq_eq_false_iff_ne.mpr g42
   have l50 : decide (50 ≤ c) = true := aH (by omega)
   have l53 : decide (c ≤ 53) = true := aH (by omega)
   have g50 : 50 ≤ c := by omega
   have g53 : c ≤ 53 := by omega
  clear hc h1 hrg g42
  go_enter Try.func43, Try.ntmps43
  go_wp2_with (go_at_call 43; refine (IH.out _).mono ?_; rintro e w1 ⟨f1, A1, n1, m1, rfl, hp1, hb⟩; obtain ⟨s1, s2, s3⟩ := spec_l7Read.start w; have BR := aM (aD s1 hb); have BN := aM (aD s2 hb); have HB1 := aM (aE s3 hb); have HP1 := aM hp1; have l10 := blk_lt BR.out; have l11 : w.heap.size < w1.heap.size + 1 := (by omega); have l12 : w.heap.size < w1.heap.size + 1 + 1 := (by omega); have l20 := blk_lt BN.out; have l21 : w.heap.size + 1 + 1 < w1.heap.size + 1 := (by omega); have e10 := aA BR.out 0; have e11 := aA BR.out 1; have f10 := aC BR.out 0; have f11 := aC BR.out 1; have e20 := aA BN.out 0; have e21 := aA BN.out 1; have f20 := aC BN.out 0; have f21 := aC BN.out 1; clear s1 s2 s3 hb hp1)
  refine cF (cG rfl _ _ w.heap.size 49 (#[.int .u8 c, .slice (some ⟨w1.heap.size + 1, 0, none⟩) 1 1]) (0, 0) _ rfl ?hg Try.underlying49 rfl (by kernel_rfl)) rfl ?_; (case hg => (repeat (with_reducible refine kA ?_ _)); with_reducible refine bV (cs := #[.int .u8 c, .slice none 0 0]) ?_ 1 _ rfl; with_reducible refine bV (cs := #[.int .u8 0, .slice none 0 0]) ?_ 0 _ rfl; exact BR.out)
  have lo0 : (((w.alloc (.cells #[.int .u8 0, .slice none 0 0] 49)).alloc (.cells #[] 49)).alloc (.cells #[.int .u8 48, .slice (some ⟨w.heap.size + 1, 0, none⟩) 0 0] 49)).heap.size = w.heap.size + 1 + 1 + 1 := by rw [bW, bW, bW]
  have far : ∀ i, w.heap.size + 1 ≤ i → i < w1.heap.size → ((((w1.setCell ⟨w.heap.size, 0, none⟩ (.int .u8 c)).setCell ⟨w.heap.size, 1, none⟩ (.slice (some ⟨w1.heap.size + 1, 0, none⟩) 1 1)).alloc (.cells #[.int .u8 f1, .slice A1 n1 m1] 49)).alloc (.cells #[.int .u8 f1, .slice A1 n1 m1] 49)).heap[i]? = w1.heap[i]? := fun i h1 h2 => by rw [Below.heap_alloc _ _ _ (by rw [bW]; simp [World.setCell]; omega), Below.heap_alloc _ _ _ (by simp [World.setCell]; omega), Below.heap_setCell _ _ _ _ (by show i ≠ w.heap.size; omega), Below.heap_setCell _ _ _ _ (by show i ≠ w.heap.size; omega)]
  exact ⟨_, _, _, _, rfl, ⟨w1.heap.size + 1, f1, A1, n1, m1, _, w1.heap.size, rfl, rfl, rfl, cD _, by omega, by rw [bW, bW]; simp [World.setCell], (by rw [bW, bW, bW]; omega), by rw [bW, bW]; simp [World.setCell]; omega, spec_l7Read.new2 _ _ _ _ (by simp [World.setCell]), hP _ _ _ _ _ _ _ _ HP1.out fun i h1 h2 => far i (by have := lo0; omega) h2⟩, bA (bA ((HB1.out.setCell (p := ⟨w.heap.size, 0, none⟩) (cD _) _).setCell (p := ⟨w.heap.size, 1, none⟩) (cD _) _) _) _⟩
set_option maxHeartbeats 4000000 in
set_option maxRecDepth 100000 in
theorem spec_l7Read.two_z (s : ByteArray) (p : Nat) (w : World) (h : p < s.size) (hs : s.size ≤ 1000) (hc : bt s p = 40) (P : Nat → Nat → World → Int → Option Addr → Nat → Nat → Prop) (ih : ∀ W, Calls Try.prog 43 #[.string s, .int .i64 ((p : Int) + 1)] W (spec_l7Read.Hands P 0 W)) :
  Calls Try.prog 43 #[.string s, .int .i64 p] w (spec_l7Read.Hands (fun _ _ _ _ _ _ _ => True) 0 w) := by
 have hl : ¬ (s.size : Int) ≤ (p : Int) := by omega
 have hl2 : decide ((s.size : Int) ≤ (p : Int)) = false := aK hl
 have hx : ∀ h : p < s.size, ((s[p]'h).toNat : Int) = 40 := fun h' => by rw [← hc]; exact bt_at s (p : Int) h'
 have hrg := bt_range s (p : Int)
 obtain ⟨a, ha⟩ : ∃ a : Int, a = (p : Int) + 1 := ⟨_, rfl⟩
 have hw : wrap64 ((p : Int) + 1) = a := by rw [ha]; unfold wrap64; omega
 rw [← ha] at ih
 have ha2 : (p : Int) + 1 = a := ha.symm
 clear ha
 have IH := aM ih
 clear ih hc hrg
 go_enter Try.func43, Try.ntmps43
 go_wp2_with (go_at_call_of 43 a; refine (IH.out _).mono ?_; rintro e w1 ⟨f1, A1, n1, m1, rfl, hp1, hb⟩; obtain ⟨s1, s2, s3⟩ := spec_l7Read.start w; have BR := aM (aD s1 hb); have BN := aM (aD s2 hb); have HB1 := aM (aE s3 hb); have HP1 := aM hp1; have l10 := blk_lt BR.out; have l11 : w.heap.size < w1.heap.size + 1 := (by omega); have l12 : w.heap.size < w1.heap.size + 1 + 1 := (by omega); have l20 := blk_lt BN.out; have l21 : w.heap.size + 1 + 1 < w1.heap.size + 1 := (by omega); have e10 := aA BR.out 0; have e11 := aA BR.out 1; have f10 := aC BR.out 0; have f11 := aC BR.out 1; have e20 := aA BN.out 0; have e21 := aA BN.out 1; have f20 := aC BN.out 0; have f21 := aC BN.out 1; clear s1 s2 s3 hb hp1)
 refine cF (cG rfl _ _ w.heap.size 49 (#[.int .u8 48, .slice (some ⟨w.heap.size + 1, 0, none⟩) 0 0]) (0, 0) _ rfl ?hg Try.underlying49 rfl (by kernel_rfl)) rfl ?_; (case hg => (repeat (with_reducible refine kA ?_ _)); with_reducible refine bV (cs := #[.int .u8 48, .slice none 0 0]) ?_ 1 _ rfl; with_reducible refine bV (cs := #[.int .u8 0, .slice none 0 0]) ?_ 0 _ rfl; (repeat (fail)); exact BR.out)
 exact ⟨_, _, _, _, rfl, trivial, by repeat (first | with_reducible exact HB1.out | with_reducible apply bA | with_reducible refine Below.setCell (p := ⟨w.heap.size, 1, none⟩) ?_ (cD _) _ | with_reducible refine Below.setCell (p := ⟨w.heap.size, 0, none⟩) ?_ (cD _) _)⟩
set_option maxHeartbeats 4000000 in
set_option maxRecDepth 100000 in
theorem spec_l7Read.two_past (s : ByteArray) (p : Nat) (w : World) (h : p < s.size) (hs : s.size ≤ 1000) (hc : bt s p = 40) (m : Nat) (hm : 1 ≤ m) (hm2 : ¬ m < s.size) (P : Nat → Nat → World → Int → Option Addr → Nat → Nat → Prop) (ih : ∀ W, Calls Try.prog 43 #[.string s, .int .i64 ((p : Int) + 1)] W (spec_l7Read.Hands P m W)) :
  Calls Try.prog 43 #[.string s, .int .i64 p] w (spec_l7Read.Hands (fun _ _ _ _ _ _ _ => True) 0 w) := by
 have hl : ¬ (s.size : Int) ≤ (p : Int) := by omega
 have hl2 : decide ((s.size : Int) ≤ (p : Int)) = false := aK hl
 have hx : ∀ h : p < s.size, ((s[p]'h).toNat : Int) = 40 := fun h' => by rw [← hc]; exact bt_at s (p : Int) h'
 have hrg := bt_range s (p : Int)
 obtain ⟨a, ha⟩ : ∃ a : Int, a = (p : Int) + 1 := ⟨_, rfl⟩
 have hw : wrap64 ((p : Int) + 1) = a := by rw [ha]; unfold wrap64; omega
 rw [← ha] at ih
 have ha2 : (p : Int) + 1 = a := ha.symm
 clear ha
 have IH := aM ih
 clear ih hc hrg
 have z0 : ((m : Int) == 0) = false := beq_eq_false_iff_ne.mpr (by omega)
 have z1 : ¬ (m : Int) = 0 := by omega
 have zl : (s.size : Int) ≤ (m : Int) := by omega
 have zl2 : decide ((s.size : Int) ≤ (m : Int)) = true := aH zl
 go_enter Try.func43, Try.ntmps43
 go_wp2_with (go_at_call_of 43 a; refine (IH.out _).mono ?_; rintro e w1 ⟨f1, A1, n1, m1, rfl, hp1, hb⟩; obtain ⟨s1, s2, s3⟩ := spec_l7Read.start w; have BR := aM (aD s1 hb); have BN := aM (aD s2 hb); have HB1 := aM (aE s3 hb); have HP1 := aM hp1; have l10 := blk_lt BR.out; have l11 : w.heap.size < w1.heap.size + 1 := (by omega); have l12 : w.heap.size < w1.heap.size + 1 + 1 := (by omega); have l20 := blk_lt BN.out; have l21 : w.heap.size + 1 + 1 < w1.heap.size + 1 := (by omega); have e10 := aA BR.out 0; have e11 := aA BR.out 1; have f10 := aC BR.out 0; have f11 := aC BR.out 1; have e20 := aA BN.out 0; have e21 := aA BN.out 1; have f20 := aC BN.out 0; have f21 := aC BN.out 1; clear s1 s2 s3 hb hp1)
 refine cF (cG rfl _ _ w.heap.size 49 (#[.int .u8 48, .slice (some ⟨w.heap.size + 1, 0, none⟩) 0 0]) (0, 0) _ rfl ?hg Try.underlying49 rfl (by kernel_rfl)) rfl ?_; (case hg => (repeat (with_reducible refine kA ?_ _)); with_reducible refine bV (cs := #[.int .u8 48, .slice none 0 0]) ?_ 1 _ rfl; with_reducible refine bV (cs := #[.int .u8 0, .slice none 0 0]) ?_ 0 _ rfl; (repeat (fail)); exact BR.out)
 exact ⟨_, _, _, _, rfl, trivial, by repeat (first | with_reducible exact HB1.out | with_reducible apply bA | with_reducible refine Below.setCell (p := ⟨w.heap.size, 1, none⟩) ?_ (cD _) _ | with_reducible refine Below.setCell (p := ⟨w.heap.size, 0, none⟩) ?_ (cD _) _)⟩
set_option maxHeartbeats 4000000 in
set_option maxRecDepth 100000 in
theorem spec_l7Read.two_sign (s : ByteArray) (p : Nat) (w : World) (h : p < s.size) (hs : s.size ≤ 1000) (hc : bt s p = 40) (m : Nat) (hm : 1 ≤ m) (hm2 : m < s.size) (o : Int) (ho : bt s m = o) (h1 : ¬ (o = 43 ∨ o = 46 ∨ o = 38)) (P : Nat → Nat → World → Int → Option Addr → Nat → Nat → Prop) (ih : ∀ W, Calls Try.prog 43 #[.string s, .int .i64 ((p : Int) + 1)] W (spec_l7Read.Hands P m W)) :
  Calls Try.prog 43 #[.string s, .int .i64 p] w (spec_l7Read.Hands (fun _ _ _ _ _ _ _ => True) 0 w) := by
 have hl : ¬ (s.size : Int) ≤ (p : Int) := by omega
 have hl2 : decide ((s.size : Int) ≤ (p : Int)) = false := aK hl
 have hx : ∀ h : p < s.size, ((s[p]'h).toNat : Int) = 40 := fun h' => by rw [← hc]; exact bt_at s (p : Int) h'
 have hrg := bt_range s (p : Int)
 obtain ⟨a, ha⟩ : ∃ a : Int, a = (p : Int) + 1 := ⟨_, rfl⟩
 have hw : wrap64 ((p : Int) + 1) = a := by rw [ha]; unfold wrap64; omega
 rw [← ha] at ih
 have ha2 : (p : Int) + 1 = a := ha.symm
 clear ha
 have IH := aM ih
 clear ih hc hrg
 have z0 : ((m : Int) == 0) = false := beq_eq_false_iff_ne.mpr (by omega)
 have z1 : ¬ (m : Int) = 0 := by omega
 have zl : ¬ (s.size : Int) ≤ (m : Int) := by omega
 have zl2 : decide ((s.size : Int) ≤ (m : Int)) = false := aK zl
 have hy : ∀ h : m < s.size, ((s[m]'h).toNat : Int) = o := fun h' => by rw [← ho]; exact bt_at s (m : Int) h'
 have q43 : (o != 43) = true := bne_iff_ne.mpr (by omega)
 have q46 : (o != 46) = true := bne_iff_ne.mpr (by omega)
 have q38 : (o != 38) = true := bne_iff_ne.mpr (by omega)
 clear ho h1
 go_enter Try.func43, Try.ntmps43
 go_wp2_with (go_at_call_of 43 a; refine (IH.out _).mono ?_; rintro e w1 ⟨f1, A1, n1, m1, rfl, hp1, hb⟩; obtain ⟨s1, s2, s3⟩ := spec_l7Read.start w; have BR := aM (aD s1 hb); have BN := aM (aD s2 hb); have HB1 := aM (aE s3 hb); have HP1 := aM hp1; have l10 := blk_lt BR.out; have l11 : w.heap.size < w1.heap.size + 1 := (by omega); have l12 : w.heap.size < w1.heap.size + 1 + 1 := (by omega); have l20 := blk_lt BN.out; have l21 : w.heap.size + 1 + 1 < w1.heap.size + 1 := (by omega); have e10 := aA BR.out 0; have e11 := aA BR.out 1; have f10 := aC BR.out 0; have f11 := aC BR.out 1; have e20 := aA BN.out 0; have e21 := aA BN.out 1; have f20 := aC BN.out 0; have f21 := aC BN.out 1; clear s1 s2 s3 hb hp1)
 refine cF (cG rfl _ _ w.heap.size 49 (#[.int .u8 48, .slice (some ⟨w.heap.size + 1, 0, none⟩) 0 0]) (0, 0) _ rfl ?hg Try.underlying49 rfl (by kernel_rfl)) rfl ?_; (case hg => (repeat (with_reducible refine kA ?_ _)); with_reducible refine bV (cs := #[.int .u8 48, .slice none 0 0]) ?_ 1 _ rfl; with_reducible refine bV (cs := #[.int .u8 0, .slice none 0 0]) ?_ 0 _ rfl; (repeat (fail)); exact BR.out)
 exact ⟨_, _, _, _, rfl, trivial, by repeat (first | with_reducible exact HB1.out | with_reducible apply bA | with_reducible refine Below.setCell (p := ⟨w.heap.size, 1, none⟩) ?_ (cD _) _ | with_reducible refine Below.setCell (p := ⟨w.heap.size, 0, none⟩) ?_ (cD _) _)⟩
set_option maxHeartbeats 4000000 in
set_option maxRecDepth 100000 in
theorem spec_l7Read.two2_z (s : ByteArray) (p : Nat) (w : World) (h : p < s.size) (hs : s.size ≤ 1000) (hc : bt s p = 40) (m : Nat) (hm : 1 ≤ m) (hm2 : m < s.size) (o : Int) (ho : bt s m = o) (h1 : o = 43 ∨ o = 46 ∨ o = 38) (P : Nat → Nat → World → Int → Option Addr → Nat → Nat → Prop) (ih : ∀ W, Calls Try.prog 43 #[.string s, .int .i64 ((p : Int) + 1)] W (spec_l7Read.Hands P m W)) (Q : Nat → Nat → World → Int → Option Addr → Nat → Nat → Prop) (ih2 : ∀ W, Calls Try.prog 43 #[.string s, .int .i64 ((m : Int) + 1)] W (spec_l7Read.Hands Q 0 W)) :
  Calls Try.prog 43 #[.string s, .int .i64 p] w (spec_l7Read.Hands (fun _ _ _ _ _ _ _ => True) 0 w) := by
 have hl : ¬ (s.size : Int) ≤ (p : Int) := by omega
 have hl2 : decide ((s.size : Int) ≤ (p : Int)) = false := aK hl
 have hx : ∀ h : p < s.size, ((s[p]'h).toNat : Int) = 40 := fun h' => by rw [← hc]; exact bt_at s (p : Int) h'
 have hrg := bt_range s (p : Int)
 obtain ⟨a, ha⟩ : ∃ a : Int, a = (p : Int) + 1 := ⟨_, rfl⟩
 have hw : wrap64 ((p : Int) + 1) = a := by rw [ha]; unfold wrap64; omega
 rw [← ha] at ih
 have ha2 : (p : Int) + 1 = a := ha.symm
 clear ha
 have IH := aM ih
 clear ih hc hrg
 have z0 : ((m : Int) == 0) = false := beq_eq_false_iff_ne.mpr (by omega)
 have z1 : ¬ (m : Int) = 0 := by omega
 have zl : ¬ (s.size : Int) ≤ (m : Int) := by omega
 have zl2 : decide ((s.size : Int) ≤ (m : Int)) = false := aK zl
 have hy : ∀ h : m < s.size, ((s[m]'h).toNat : Int) = o := fun h' => by rw [← ho]; exact bt_at s (m : Int) h'
 obtain ⟨b, hb⟩ : ∃ b : Int, b = (m : Int) + 1 := ⟨_, rfl⟩
 have hw2 : wrap64 ((m : Int) + 1) = b := by rw [hb]; unfold wrap64; omega
 rw [← hb] at ih2
 have hb2 : (m : Int) + 1 = b := hb.symm
 clear hb
 have IH2 := aM ih2
 clear ih2 ho
 rcases h1 with rfl | rfl | rfl
 all_goals
  go_enter Try.func43, Try.ntmps43
  go_wp2_with (first | (go_at_call_of 43 a; refine (IH.out _).mono ?_; rintro e w1 ⟨f1, A1, n1, m1, rfl, hp1, hb⟩; obtain ⟨s1, s2, s3⟩ := spec_l7Read.start w; have BR := aM (aD s1 hb); have BN := aM (aD s2 hb); have HB1 := aM (aE s3 hb); have HP1 := aM hp1; have l10 := blk_lt BR.out; have l11 : w.heap.size < w1.heap.size + 1 := (by omega); have l12 : w.heap.size < w1.heap.size + 1 + 1 := (by omega); have l20 := blk_lt BN.out; have l21 : w.heap.size + 1 + 1 < w1.heap.size + 1 := (by omega); have e10 := aA BR.out 0; have e11 := aA BR.out 1; have f10 := aC BR.out 0; have f11 := aC BR.out 1; have e20 := aA BN.out 0; have e21 := aA BN.out 1; have f20 := aC BN.out 0; have f21 := aC BN.out 1; clear s1 s2 s3 hb hp1) | (go_at_call_of 43 b; refine (IH2.out _).mono ?_; rintro e w2 ⟨f2, A2, n2, m2, rfl, hp2, hb⟩; have BR2 := aM (aD (kA BR.out (.cells #[.int .u8 f1, .slice A1 n1 m1] 49)) hb); have BN2 := aM (aD (kA BN.out (.cells #[.int .u8 f1, .slice A1 n1 m1] 49)) hb); have BT := aM (aD (blk_new w1 (.cells #[.int .u8 f1, .slice A1 n1 m1] 49)) hb); have HB2 := aM (aE (bA HB1.out (.cells #[.int .u8 f1, .slice A1 n1 m1] 49)) hb); have HP2 := aM hp2; have GR := aM hb; have l30 := blk_lt BR2.out; have l31 : w.heap.size < w2.heap.size + 1 := (by omega); have l32 : w.heap.size < w2.heap.size + 1 + 1 := (by omega); have l40 := blk_lt BN2.out; have l41 : w.heap.size + 1 + 1 < w2.heap.size + 1 := (by omega); have l50_ := blk_lt BT.out; have l51_ : w1.heap.size < w2.heap.size + 1 := (by omega); have e30 := aA BR2.out 0; have e31 := aA BR2.out 1; have f30 := aC BR2.out 0; have f31 := aC BR2.out 1; have e40 := aA BN2.out 0; have e41 := aA BN2.out 1; have f40 := aC BN2.out 0; have f41 := aC BN2.out 1; have e50 := aA BT.out 0; have e51 := aA BT.out 1; have f50 := aC BT.out 0; have f51 := aC BT.out 1; clear hb hp2))
  refine cF (cG rfl _ _ w.heap.size 49 (#[.int .u8 48, .slice (some ⟨w.heap.size + 1, 0, none⟩) 0 0]) (0, 0) _ rfl ?hg Try.underlying49 rfl (by kernel_rfl)) rfl ?_; (case hg => (repeat (with_reducible refine kA ?_ _)); with_reducible refine bV (cs := #[.int .u8 48, .slice none 0 0]) ?_ 1 _ rfl; with_reducible refine bV (cs := #[.int .u8 0, .slice none 0 0]) ?_ 0 _ rfl; (repeat (fail)); exact BR2.out)
  exact ⟨_, _, _, _, rfl, trivial, by repeat (first | with_reducible exact HB2.out | with_reducible apply bA | with_reducible refine Below.setCell (p := ⟨w.heap.size, 1, none⟩) ?_ (cD _) _ | with_reducible refine Below.setCell (p := ⟨w.heap.size, 0, none⟩) ?_ (cD _) _)⟩
set_option maxHeartbeats 4000000 in
set_option maxRecDepth 100000 in
theorem spec_l7Read.two2_past (s : ByteArray) (p : Nat) (w : World) (h : p < s.size) (hs : s.size ≤ 1000) (hc : bt s p = 40) (m : Nat) (hm : 1 ≤ m) (hm2 : m < s.size) (o : Int) (ho : bt s m = o) (h1 : o = 43 ∨ o = 46 ∨ o = 38) (P : Nat → Nat → World → Int → Option Addr → Nat → Nat → Prop) (ih : ∀ W, Calls Try.prog 43 #[.string s, .int .i64 ((p : Int) + 1)] W (spec_l7Read.Hands P m W)) (q : Nat) (hq : 1 ≤ q) (hq2 : ¬ q < s.size) (Q : Nat → Nat → World → Int → Option Addr → Nat → Nat → Prop) (ih2 : ∀ W, Calls Try.prog 43 #[.string s, .int .i64 ((m : Int) + 1)] W (spec_l7Read.Hands Q q W)) :
  Calls Try.prog 43 #[.string s, .int .i64 p] w (spec_l7Read.Hands (fun _ _ _ _ _ _ _ => True) 0 w) := by
 have hl : ¬ (s.size : Int) ≤ (p : Int) := by omega
 have hl2 : decide ((s.size : Int) ≤ (p : Int)) = false := aK hl
 have hx : ∀ h : p < s.size, ((s[p]'h).toNat : Int) = 40 := fun h' => by rw [← hc]; exact bt_at s (p : Int) h'
 have hrg := bt_range s (p : Int)
 obtain ⟨a, ha⟩ : ∃ a : Int, a = (p : Int) + 1 := ⟨_, rfl⟩
 have hw : wrap64 ((p : Int) + 1) = a := by rw [ha]; unfold wrap64; omega
 rw [← ha] at ih
 have ha2 : (p : Int) + 1 = a := ha.symm
 clear ha
 have IH := aM ih
 clear ih hc hrg
 have z0 : ((m : Int) == 0) = false := beq_eq_false_iff_ne.mpr (by omega)
 have z1 : ¬ (m : Int) = 0 := by omega
 have zl : ¬ (s.size : Int) ≤ (m : Int) := by omega
 have zl2 : decide ((s.size : Int) ≤ (m : Int)) = false := aK zl
 have hy : ∀ h : m < s.size, ((s[m]'h).toNat : Int) = o := fun h' => by rw [← ho]; exact bt_at s (m : Int) h'
 obtain ⟨b, hb⟩ : ∃ b : Int, b = (m : Int) + 1 := ⟨_, rfl⟩
 have hw2 : wrap64 ((m : Int) + 1) = b := by rw [hb]; unfold wrap64; omega
 rw [← hb] at ih2
 have hb2 : (m : Int) + 1 = b := hb.symm
 clear hb
 have IH2 := aM ih2
 clear ih2 ho
 have y0 : ((q : Int) == 0) = false := beq_eq_false_iff_ne.mpr (by omega)
 have y1 : ¬ (q : Int) = 0 := by omega
 have yl : (s.size : Int) ≤ (q : Int) := by omega
 have yl2 : decide ((s.size : Int) ≤ (q : Int)) = true := aH yl
 rcases h1 with rfl | rfl | rfl
 all_goals
  go_enter Try.func43, Try.ntmps43
  go_wp2_with (first | (go_at_call_of 43 a; refine (IH.out _).mono ?_; rintro e w1 ⟨f1, A1, n1, m1, rfl, hp1, hb⟩; obtain ⟨s1, s2, s3⟩ := spec_l7Read.start w; have BR := aM (aD s1 hb); have BN := aM (aD s2 hb); have HB1 := aM (aE s3 hb); have HP1 := aM hp1; have l10 := blk_lt BR.out; have l11 : w.heap.size < w1.heap.size + 1 := (by omega); have l12 : w.heap.size < w1.heap.size + 1 + 1 := (by omega); have l20 := blk_lt BN.out; have l21 : w.heap.size + 1 + 1 < w1.heap.size + 1 := (by omega); have e10 := aA BR.out 0; have e11 := aA BR.out 1; have f10 := aC BR.out 0; have f11 := aC BR.out 1; have e20 := aA BN.out 0; have e21 := aA BN.out 1; have f20 := aC BN.out 0; have f21 := aC BN.out 1; clear s1 s2 s3 hb hp1) | (go_at_call_of 43 b; refine (IH2.out _).mono ?_; rintro e w2 ⟨f2, A2, n2, m2, rfl, hp2, hb⟩; have BR2 := aM (aD (kA BR.out (.cells #[.int .u8 f1, .slice A1 n1 m1] 49)) hb); have BN2 := aM (aD (kA BN.out (.cells #[.int .u8 f1, .slice A1 n1 m1] 49)) hb); have BT := aM (aD (blk_new w1 (.cells #[.int .u8 f1, .slice A1 n1 m1] 49)) hb); have HB2 := aM (aE (bA HB1.out (.cells #[.int .u8 f1, .slice A1 n1 m1] 49)) hb); have HP2 := aM hp2; have GR := aM hb; have l30 := blk_lt BR2.out; have l31 : w.heap.size < w2.heap.size + 1 := (by omega); have l32 : w.heap.size < w2.heap.size + 1 + 1 := (by omega); have l40 := blk_lt BN2.out; have l41 : w.heap.size + 1 + 1 < w2.heap.size + 1 := (by omega); have l50_ := blk_lt BT.out; have l51_ : w1.heap.size < w2.heap.size + 1 := (by omega); have e30 := aA BR2.out 0; have e31 := aA BR2.out 1; have f30 := aC BR2.out 0; have f31 := aC BR2.out 1; have e40 := aA BN2.out 0; have e41 := aA BN2.out 1; have f40 := aC BN2.out 0; have f41 := aC BN2.out 1; have e50 := aA BT.out 0; have e51 := aA BT.out 1; have f50 := aC BT.out 0; have f51 := aC BT.out 1; clear hb hp2))
  refine cF (cG rfl _ _ w.heap.size 49 (#[.int .u8 48, .slice (some ⟨w.heap.size + 1, 0, none⟩) 0 0]) (0, 0) _ rfl ?hg Try.underlying49 rfl (by kernel_rfl)) rfl ?_; (case hg => (repeat (with_reducible refine kA ?_ _)); with_reducible refine bV (cs := #[.int .u8 48, .slice none 0 0]) ?_ 1 _ rfl; with_reducible refine bV (cs := #[.int .u8 0, .slice none 0 0]) ?_ 0 _ rfl; (repeat (fail)); exact BR2.out)
  exact ⟨_, _, _, _, rfl, trivial, by repeat (first | with_reducible exact HB2.out | with_reducible apply bA | with_reducible refine Below.setCell (p := ⟨w.heap.size, 1, none⟩) ?_ (cD _) _ | with_reducible refine Below.setCell (p := ⟨w.heap.size, 0, none⟩) ?_ (cD _) _)⟩
set_option maxHeartbeats 4000000 in
set_option maxRecDepth 100000 in
theorem spec_l7Read.two2_shut (s : ByteArray) (p : Nat) (w : World) (h : p < s.size) (hs : s.size ≤ 1000) (hc : bt s p = 40) (m : Nat) (hm : 1 ≤ m) (hm2 : m < s.size) (o : Int) (ho : bt s m = o) (h1 : o = 43 ∨ o = 46 ∨ o = 38) (P : Nat → Nat → World → Int → Option Addr → Nat → Nat → Prop) (ih : ∀ W, Calls Try.prog 43 #[.string s, .int .i64 ((p : Int) + 1)] W (spec_l7Read.Hands P m W)) (q : Nat) (hq : 1 ≤ q) (hq2 : q < s.size) (c2 : Int) (hc2 : bt s q = c2) (h2 : ¬ c2 = 41) (Q : Nat → Nat → World → Int → Option Addr → Nat → Nat → Prop) (ih2 : ∀ W, Calls Try.prog 43 #[.string s, .int .i64 ((m : Int) + 1)] W (spec_l7Read.Hands Q q W)) :
  Calls Try.prog 43 #[.string s, .int .i64 p] w (spec_l7Read.Hands (fun _ _ _ _ _ _ _ => True) 0 w) := by
 have hl : ¬ (s.size : Int) ≤ (p : Int) := by omega
 have hl2 : decide ((s.size : Int) ≤ (p : Int)) = false := aK hl
 have hx : ∀ h : p < s.size, ((s[p]'h).toNat : Int) = 40 := fun h' => by rw [← hc]; exact bt_at s (p : Int) h'
 have hrg := bt_range s (p : Int)
 obtain ⟨a, ha⟩ : ∃ a : Int, a = (p : Int) + 1 := ⟨_, rfl⟩
 have hw : wrap64 ((p : Int) + 1) = a := by rw [ha]; unfold wrap64; omega
 rw [← ha] at ih
 have ha2 : (p : Int) + 1 = a := ha.symm
 clear ha
 have IH := aM ih
 clear ih hc hrg
 have z0 : ((m : Int) == 0) = false := beq_eq_false_iff_ne.mpr (by omega)
 have z1 : ¬ (m : Int) = 0 := by omega
 have zl : ¬ (s.size : Int) ≤ (m : Int) := by omega
 have zl2 : decide ((s.size : Int) ≤ (m : Int)) = false := aK zl
 have hy : ∀ h : m < s.size, ((s[m]'h).toNat : Int) = o := fun h' => by rw [← ho]; exact bt_at s (m : Int) h'
 obtain ⟨b, hb⟩ : ∃ b : Int, b = (m : Int) + 1 := ⟨_, rfl⟩
 have hw2 : wrap64 ((m : Int) + 1) = b := by rw [hb]; unfold wrap64; omega
 rw [← hb] at ih2
 have hb2 : (m : Int) + 1 = b := hb.symm
 clear hb
 have IH2 := aM ih2
 clear ih2 ho
 have y0 : ((q : Int) == 0) = false := beq_eq_false_iff_ne.mpr (by omega)
 have y1 : ¬ (q : Int) = 0 := by omega
 have yl : ¬ (s.size : Int) ≤ (q : Int) := by omega
 have yl2 : decide ((s.size : Int) ≤ (q : Int)) = false := aK yl
 have hz : ∀ h : q < s.size, ((s[q]'h).toNat : Int) = c2 := fun h' => by rw [← hc2]; exact bt_at s (q : Int) h'
 clear hc2
 have y41 : (c2 != 41) = true := bne_iff_ne.mpr h2
 clear h2
 rcases h1 with rfl | rfl | rfl
 all_goals
  go_enter Try.func43, Try.ntmps43
  go_wp2_with (first | (go_at_call_of 43 a; refine (IH.out _).mono ?_; rintro e w1 ⟨f1, A1, n1, m1, rfl, hp1, hb⟩; obtain ⟨s1, s2, s3⟩ := spec_l7Read.start w; have BR := aM (aD s1 hb); have BN := aM (aD s2 hb); have HB1 := aM (aE s3 hb); have HP1 := aM hp1; have l10 := blk_lt BR.out; have l11 : w.heap.size < w1.heap.size + 1 := (by omega); have l12 : w.heap.size < w1.heap.size + 1 + 1 := (by omega); have l20 := blk_lt BN.out; have l21 : w.heap.size + 1 + 1 < w1.heap.size + 1 := (by omega); have e10 := aA BR.out 0; have e11 := aA BR.out 1; have f10 := aC BR.out 0; have f11 := aC BR.out 1; have e20 := aA BN.out 0; have e21 := aA BN.out 1; have f20 := aC BN.out 0; have f21 := aC BN.out 1; clear s1 s2 s3 hb hp1) | (go_at_call_of 43 b; refine (IH2.out _).mono ?_; rintro e w2 ⟨f2, A2, n2, m2, rfl, hp2, hb⟩; have BR2 := aM (aD (kA BR.out (.cells #[.int .u8 f1, .slice A1 n1 m1] 49)) hb); have BN2 := aM (aD (kA BN.out (.cells #[.int .u8 f1, .slice A1 n1 m1] 49)) hb); have BT := aM (aD (blk_new w1 (.cells #[.int .u8 f1, .slice A1 n1 m1] 49)) hb); have HB2 := aM (aE (bA HB1.out (.cells #[.int .u8 f1, .slice A1 n1 m1] 49)) hb); have HP2 := aM hp2; have GR := aM hb; have l30 := blk_lt BR2.out; have l31 : w.heap.size < w2.heap.size + 1 := (by omega); have l32 : w.heap.size < w2.heap.size + 1 + 1 := (by omega); have l40 := blk_lt BN2.out; have l41 : w.heap.size + 1 + 1 < w2.heap.size + 1 := (by omega); have l50_ := blk_lt BT.out; have l51_ : w1.heap.size < w2.heap.size + 1 := (by omega); have e30 := aA BR2.out 0; have e31 := aA BR2.out 1; have f30 := aC BR2.out 0; have f31 := aC BR2.out 1; have e40 := aA BN2.out 0; have e41 := aA BN2.out 1; have f40 := aC BN2.out 0; have f41 := aC BN2.out 1; have e50 := aA BT.out 0; have e51 := aA BT.out 1; have f50 := aC BT.out 0; have f51 := aC BT.out 1; clear hb hp2))
  refine cF (cG rfl _ _ w.heap.size 49 (#[.int .u8 48, .slice (some ⟨w.heap.size + 1, 0, none⟩) 0 0]) (0, 0) _ rfl ?hg Try.underlying49 rfl (by kernel_rfl)) rfl ?_; (case hg => (repeat (with_reducible refine kA ?_ _)); with_reducible refine bV (cs := #[.int .u8 48, .slice none 0 0]) ?_ 1 _ rfl; with_reducible refine bV (cs := #[.int .u8 0, .slice none 0 0]) ?_ 0 _ rfl; (repeat (fail)); exact BR2.out)
  exact ⟨_, _, _, _, rfl, trivial, by repeat (first | with_reducible exact HB2.out | with_reducible apply bA | with_reducible refine Below.setCell (p := ⟨w.heap.size, 1, none⟩) ?_ (cD _) _ | with_reducible refine Below.setCell (p := ⟨w.heap.size, 0, none⟩) ?_ (cD _) _)⟩
set_option maxHeartbeats 4000000 in
set_option maxRecDepth 100000 in
theorem spec_l7Read.two_yes (s : ByteArray) (p : Nat) (w : World) (h : p < s.size) (hs : s.size ≤ 1000) (hc : bt s p = 40) (m : Nat) (hm : 1 ≤ m) (hm2 : m < s.size) (o : Int) (ho : bt s m = o) (h1 : o = 43 ∨ o = 46 ∨ o = 38) (P : Nat → Nat → World → Int → Option Addr → Nat → Nat → Prop) (ih : ∀ W, Calls Try.prog 43 #[.string s, .int .i64 ((p : Int) + 1)] W (spec_l7Read.Hands P m W)) (q : Nat) (hq : 1 ≤ q) (hq2 : q < s.size) (hc2 : bt s q = 41) (Q : Nat → Nat → World → Int → Option Addr → Nat → Nat → Prop) (ih2 : ∀ W, Calls Try.prog 43 #[.string s, .int .i64 ((m : Int) + 1)] W (spec_l7Read.Hands Q q W)) (hP : ∀ lo hi W W' f A n m, P lo hi W f A n m → (∀ i, lo ≤ i → i < hi → W'.heap[i]? = W.heap[i]?) → P lo hi W' f A n m) (hQ : ∀ lo hi W W' f A n m, Q lo hi W f A n m → (∀ i, lo ≤ i → i < hi → W'.heap[i]? = W.heap[i]?) → Q lo hi W' f A n m)  :
  Calls Try.prog 43 #[.string s, .int .i64 p] w (spec_l7Read.Hands (fun lo hi W f A n m => ∃ g f1 A1 n1 m1 lo1 hi1 f2 A2 n2 m2 lo2 hi2, f = o ∧ A = some ⟨g, 0, none⟩ ∧ n = 2 ∧ 2 ≤ m ∧ lo ≤ g ∧ g < hi ∧ lo ≤ lo1 ∧ hi1 ≤ hi ∧ lo ≤ lo2 ∧ hi2 ≤ hi ∧ W.heap[g]? = some (.cells #[.int .u8 f1, .slice A1 n1 m1, .int .u8 f2, .slice A2 n2 m2] 49 (0, 0)) ∧ P lo1 hi1 W f1 A1 n1 m1 ∧ Q lo2 hi2 W f2 A2 n2 m2) ((q : Int) + 1) w) := by
 have hl : ¬ (s.size : Int) ≤ (p : Int) := by omega
 have hl2 : decide ((s.size : Int) ≤ (p : Int)) = false := aK hl
 have hx : ∀ h : p < s.size, ((s[p]'h).toNat : Int) = 40 := fun h' => by rw [← hc]; exact bt_at s (p : Int) h'
 have hrg := bt_range s (p : Int)
 obtain ⟨a, ha⟩ : ∃ a : Int, a = (p : Int) + 1 := ⟨_, rfl⟩
 have hw : wrap64 ((p : Int) + 1) = a := by rw [ha]; unfold wrap64; omega
 rw [← ha] at ih
 have ha2 : (p : Int) + 1 = a := ha.symm
 clear ha
 have IH := aM ih
 clear ih hc hrg
 have z0 : ((m : Int) == 0) = false := beq_eq_false_iff_ne.mpr (by omega)
 have z1 : ¬ (m : Int) = 0 := by omega
 have zl : ¬ (s.size : Int) ≤ (m : Int) := by omega
 have zl2 : decide ((s.size : Int) ≤ (m : Int)) = false := aK zl
 have hy : ∀ h : m < s.size, ((s[m]'h).toNat : Int) = o := fun h' => by rw [← ho]; exact bt_at s (m : Int) h'
 obtain ⟨b, hb⟩ : ∃ b : Int, b = (m : Int) + 1 := ⟨_, rfl⟩
 have hw2 : wrap64 ((m : Int) + 1) = b := by rw [hb]; unfold wrap64; omega
 rw [← hb] at ih2
 have hb2 : (m : Int) + 1 = b := hb.symm
 clear hb
 have IH2 := aM ih2
 clear ih2 ho
 have y0 : ((q : Int) == 0) = false := beq_eq_false_iff_ne.mpr (by omega)
 have y1 : ¬ (q : Int) = 0 := by omega
 have yl : ¬ (s.size : Int) ≤ (q : Int) := by omega
 have yl2 : decide ((s.size : Int) ≤ (q : Int)) = false := aK yl
 have hz : ∀ h : q < s.size, ((s[q]'h).toNat : Int) = 41 := fun h' => by rw [← hc2]; exact bt_at s (q : Int) h'
 have hw3 : wrap64 ((q : Int) + 1) = ((q + 1 : Nat) : Int) := by unfold wrap64; omega
 clear hc2
 rcases h1 with rfl | rfl | rfl
 ·go_enter Try.func43, Try.ntmps43
  go_wp2_with (first | (go_at_call_of 43 a; refine (IH.out _).mono ?_; rintro e w1 ⟨f1, A1, n1, m1, rfl, hp1, hb⟩; obtain ⟨s1, s2, s3⟩ := spec_l7Read.start w; have BR := aM (aD s1 hb); have BN := aM (aD s2 hb); have HB1 := aM (aE s3 hb); have HP1 := aM hp1; have l10 := blk_lt BR.out; have l11 : w.heap.size < w1.heap.size + 1 := (by omega); have l12 : w.heap.size < w1.heap.size + 1 + 1 := (by omega); have l20 := blk_lt BN.out; have l21 : w.heap.size + 1 + 1 < w1.heap.size + 1 := (by omega); have e10 := aA BR.out 0; have e11 := aA BR.out 1; have f10 := aC BR.out 0; have f11 := aC BR.out 1; have e20 := aA BN.out 0; have e21 := aA BN.out 1; have f20 := aC BN.out 0; have f21 := aC BN.out 1; clear s1 s2 s3 hb hp1) | (go_at_call_of 43 b; refine (IH2.out _).mono ?_; rintro e w2 ⟨f2, A2, n2, m2, rfl, hp2, hb⟩; have BR2 := aM (aD (kA BR.out (.cells #[.int .u8 f1, .slice A1 n1 m1] 49)) hb); have BN2 := aM (aD (kA BN.out (.cells #[.int .u8 f1, .slice A1 n1 m1] 49)) hb); have BT := aM (aD (blk_new w1 (.cells #[.int .u8 f1, .slice A1 n1 m1] 49)) hb); have HB2 := aM (aE (bA HB1.out (.cells #[.int .u8 f1, .slice A1 n1 m1] 49)) hb); have HP2 := aM hp2; have GR := aM hb; have l30 := blk_lt BR2.out; have l31 : w.heap.size < w2.heap.size + 1 := (by omega); have l32 : w.heap.size < w2.heap.size + 1 + 1 := (by omega); have l40 := blk_lt BN2.out; have l41 : w.heap.size + 1 + 1 < w2.heap.size + 1 := (by omega); have l50_ := blk_lt BT.out; have l51_ : w1.heap.size < w2.heap.size + 1 := (by omega); have e30 := aA BR2.out 0; have e31 := aA BR2.out 1; have f30 := aC BR2.out 0; have f31 := aC BR2.out 1; have e40 := aA BN2.out 0; have e41 := aA BN2.out 1; have f40 := aC BN2.out 0; have f41 := aC BN2.out 1; have e50 := aA BT.out 0; have e51 := aA BT.out 1; have f50 := aC BT.out 0; have f51 := aC BT.out 1; clear hb hp2))
  go_region
  try go_wp2
  refine cF (cG rfl _ _ w.heap.size 49 (#[.int .u8 43, .slice (some ⟨w2.heap.size + 1, 0, none⟩) 2 2]) (0, 0) _ rfl ?hg Try.underlying49 rfl (by kernel_rfl)) rfl ?_; (case hg => (repeat (first | with_reducible refine kA ?_ _ | with_reducible refine kD ?_)); refine bV (cs := #[.int .u8 43, .slice none 0 0]) ?_ 1 _ rfl; refine bV (cs := #[.int .u8 0, .slice none 0 0]) ?_ 0 _ rfl; exact BR2.out)
  have lo0 : (((w.alloc (.cells #[.int .u8 0, .slice none 0 0] 49)).alloc (.cells #[] 49)).alloc (.cells #[.int .u8 48, .slice (some ⟨w.heap.size + 1, 0, none⟩) 0 0] 49)).heap.size = w.heap.size + 1 + 1 + 1 := by rw [bW, bW, bW]
  have lo1 : (w1.alloc (.cells #[.int .u8 f1, .slice A1 n1 m1] 49)).heap.size = w1.heap.size + 1 := bW ..
  have g1 := HB1.out.size
  have hsz : (((((w2.setCell ⟨w.heap.size, 0, none⟩ (.int .u8 43)).setCell ⟨w.heap.size, 1, none⟩ (.slice (some ⟨w2.heap.size + 1, 0, none⟩) 2 2)).alloc (.cells #[.int .u8 f2, .slice A2 n2 m2] 49)).alloc (.cells #[.int .u8 f1, .slice A1 n1 m1, .int .u8 f2, .slice A2 n2 m2] 49)).drew).heap.size = w2.heap.size + 1 + 1 := by show (World.alloc _ _).heap.size = _; rw [bW, bW]; simp [World.setCell]
  have far : ∀ i, w.heap.size + 1 ≤ i → i < w2.heap.size → (((((w2.setCell ⟨w.heap.size, 0, none⟩ (.int .u8 43)).setCell ⟨w.heap.size, 1, none⟩ (.slice (some ⟨w2.heap.size + 1, 0, none⟩) 2 2)).alloc (.cells #[.int .u8 f2, .slice A2 n2 m2] 49)).alloc (.cells #[.int .u8 f1, .slice A1 n1 m1, .int .u8 f2, .slice A2 n2 m2] 49)).drew).heap[i]? = w2.heap[i]? := fun i h1 h2 => by show (World.alloc _ _).heap[i]? = _; rw [Below.heap_alloc _ _ _ (by rw [bW]; simp [World.setCell]; omega), Below.heap_alloc _ _ _ (by simp [World.setCell]; omega), Below.heap_setCell _ _ _ _ (by show i ≠ w.heap.size; omega), Below.heap_setCell _ _ _ _ (by show i ≠ w.heap.size; omega)]
  have far1 : ∀ i, i < w1.heap.size → w2.heap[i]? = w1.heap[i]? := fun i h1 => (GR.out.block i (by omega)).trans (Below.heap_alloc _ _ _ h1)
  have sz2 := GR.out.size
  exact ⟨_, _, _, _, rfl, ⟨w2.heap.size + 1, f1, A1, n1, m1, _, w1.heap.size, f2, A2, n2, m2, _, w2.heap.size, rfl, rfl, rfl, cD _, by omega, by rw [hsz]; omega, by rw [lo0]; omega, by rw [hsz]; omega, by rw [lo1]; omega, by rw [hsz]; omega, kD (spec_l7Read.new2 _ _ _ _ (by simp [World.setCell])), hP _ _ _ _ _ _ _ _ HP1.out fun i h1 h2 => (far i (by omega) (by omega)).trans (far1 i h2), hQ _ _ _ _ _ _ _ _ HP2.out fun i h1 h2 => far i (by omega) h2⟩, b1 (bA (bA ((HB2.out.setCell (p := ⟨w.heap.size, 0, none⟩) (cD _) _).setCell (p := ⟨w.heap.size, 1, none⟩) (cD _) _) _) _)⟩
 ·go_enter Try.func43, Try.ntmps43
  go_wp2_with (first | (go_at_call_of 43 a; refine (IH.out _).mono ?_; rintro e w1 ⟨f1, A1, n1, m1, rfl, hp1, hb⟩; obtain ⟨s1, s2, s3⟩ := spec_l7Read.start w; have BR := aM (aD s1 hb); have BN := aM (aD s2 hb); have HB1 := aM (aE s3 hb); have HP1 := aM hp1; have l10 := blk_lt BR.out; have l11 : w.heap.size < w1.heap.size + 1 := (by omega); have l12 : w.heap.size < w1.heap.size + 1 + 1 := (by omega); have l20 := blk_lt BN.out; have l21 : w.heap.size + 1 + 1 < w1.heap.size + 1 := (by omega); have e10 := aA BR.out 0; have e11 := aA BR.out 1; have f10 := aC BR.out 0; have f11 := aC BR.out 1; have e20 := aA BN.out 0; have e21 := aA BN.out 1; have f20 := aC BN.out 0; have f21 := aC BN.out 1; clear s1 s2 s3 hb hp1) | (go_at_call_of 43 b; refine (IH2.out _).mono ?_; rintro e w2 ⟨f2, A2, n2, m2, rfl, hp2, hb⟩; have BR2 := aM (aD (kA BR.out (.cells #[.int .u8 f1, .slice A1 n1 m1] 49)) hb); have BN2 := aM (aD (kA BN.out (.cells #[.int .u8 f1, .slice A1 n1 m1] 49)) hb); have BT := aM (aD (blk_new w1 (.cells #[.int .u8 f1, .slice A1 n1 m1] 49)) hb); have HB2 := aM (aE (bA HB1.out (.cells #[.int .u8 f1, .slice A1 n1 m1] 49)) hb); have HP2 := aM hp2; have GR := aM hb; have l30 := blk_lt BR2.out; have l31 : w.heap.size < w2.heap.size + 1 := (by omega); have l32 : w.heap.size < w2.heap.size + 1 + 1 := (by omega); have l40 := blk_lt BN2.out; have l41 : w.heap.size + 1 + 1 < w2.heap.size + 1 := (by omega); have l50_ := blk_lt BT.out; have l51_ : w1.heap.size < w2.heap.size + 1 := (by omega); have e30 := aA BR2.out 0; have e31 := aA BR2.out 1; have f30 := aC BR2.out 0; have f31 := aC BR2.out 1; have e40 := aA BN2.out 0; have e41 := aA BN2.out 1; have f40 := aC BN2.out 0; have f41 := aC BN2.out 1; have e50 := aA BT.out 0; have e51 := aA BT.out 1; have f50 := aC BT.out 0; have f51 := aC BT.out 1; clear hb hp2))
  go_region
  try go_wp2
  refine cF (cG rfl _ _ w.heap.size 49 (#[.int .u8 46, .slice (some ⟨w2.heap.size + 1, 0, none⟩) 2 2]) (0, 0) _ rfl ?hg Try.underlying49 rfl (by kernel_rfl)) rfl ?_; (case hg => (repeat (first | with_reducible refine kA ?_ _ | with_reducible refine kD ?_)); refine bV (cs := #[.int .u8 46, .slice none 0 0]) ?_ 1 _ rfl; refine bV (cs := #[.int .u8 0, .slice none 0 0]) ?_ 0 _ rfl; exact BR2.out)
  have lo0 : (((w.alloc (.cells #[.int .u8 0, .slice none 0 0] 49)).alloc (.cells #[] 49)).alloc (.cells #[.int .u8 48, .slice (some ⟨w.heap.size + 1, 0, none⟩) 0 0] 49)).heap.size = w.heap.size + 1 + 1 + 1 := by rw [bW, bW, bW]
  have lo1 : (w1.alloc (.cells #[.int .u8 f1, .slice A1 n1 m1] 49)).heap.size = w1.heap.size + 1 := bW ..
  have g1 := HB1.out.size
  have hsz : (((((w2.setCell ⟨w.heap.size, 0, none⟩ (.int .u8 46)).setCell ⟨w.heap.size, 1, none⟩ (.slice (some ⟨w2.heap.size + 1, 0, none⟩) 2 2)).alloc (.cells #[.int .u8 f2, .slice A2 n2 m2] 49)).alloc (.cells #[.int .u8 f1, .slice A1 n1 m1, .int .u8 f2, .slice A2 n2 m2] 49)).drew).heap.size = w2.heap.size + 1 + 1 := by show (World.alloc _ _).heap.size = _; rw [bW, bW]; simp [World.setCell]
  have far : ∀ i, w.heap.size + 1 ≤ i → i < w2.heap.size → (((((w2.setCell ⟨w.heap.size, 0, none⟩ (.int .u8 46)).setCell ⟨w.heap.size, 1, none⟩ (.slice (some ⟨w2.heap.size + 1, 0, none⟩) 2 2)).alloc (.cells #[.int .u8 f2, .slice A2 n2 m2] 49)).alloc (.cells #[.int .u8 f1, .slice A1 n1 m1, .int .u8 f2, .slice A2 n2 m2] 49)).drew).heap[i]? = w2.heap[i]? := fun i h1 h2 => by show (World.alloc _ _).heap[i]? = _; rw [Below.heap_alloc _ _ _ (by rw [bW]; simp [World.setCell]; omega), Below.heap_alloc _ _ _ (by simp [World.setCell]; omega), Below.heap_setCell _ _ _ _ (by show i ≠ w.heap.size; omega), Below.heap_setCell _ _ _ _ (by show i ≠ w.heap.size; omega)]
  have far1 : ∀ i, i < w1.heap.size → w2.heap[i]? = w1.heap[i]? := fun i h1 => (GR.out.block i (by omega)).trans (Below.heap_alloc _ _ _ h1)
  have sz2 := GR.out.size
  exact ⟨_, _, _, _, rfl, ⟨w2.heap.size + 1, f1, A1, n1, m1, _, w1.heap.size, f2, A2, n2, m2, _, w2.heap.size, rfl, rfl, rfl, cD _, by omega, by rw [hsz]; omega, by rw [lo0]; omega, by rw [hsz]; omega, by rw [lo1]; omega, by rw [hsz]; omega, kD (spec_l7Read.new2 _ _ _ _ (by simp [World.setCell])), hP _ _ _ _ _ _ _ _ HP1.out fun i h1 h2 => (far i (by omega) (by omega)).trans (far1 i h2), hQ _ _ _ _ _ _ _ _ HP2.out fun i h1 h2 => far i (by omega) h2⟩, b1 (bA (bA ((HB2.out.setCell (p := ⟨w.heap.size, 0, none⟩) (cD _) _).setCell (p := ⟨w.heap.size, 1, none⟩) (cD _) _) _) _)⟩
 ·go_enter Try.func43, Try.ntmps43
  go_wp2_with (first | (go_at_call_of 43 a; refine (IH.out _).mono ?_; rintro e w1 ⟨f1, A1, n1, m1, rfl, hp1, hb⟩; obtain ⟨s1, s2, s3⟩ := spec_l7Read.start w; have BR := aM (aD s1 hb); have BN := aM (aD s2 hb); have HB1 := aM (aE s3 hb); have HP1 := aM hp1; have l10 := blk_lt BR.out; have l11 : w.heap.size < w1.heap.size + 1 := (by omega); have l12 : w.heap.size < w1.heap.size + 1 + 1 := (by omega); have l20 := blk_lt BN.out; have l21 : w.heap.size + 1 + 1 < w1.heap.size + 1 := (by omega); have e10 := aA BR.out 0; have e11 := aA BR.out 1; have f10 := aC BR.out 0; have f11 := aC BR.out 1; have e20 := aA BN.out 0; have e21 := aA BN.out 1; have f20 := aC BN.out 0; have f21 := aC BN.out 1; clear s1 s2 s3 hb hp1) | (go_at_call_of 43 b; refine (IH2.out _).mono ?_; rintro e w2 ⟨f2, A2, n2, m2, rfl, hp2, hb⟩; have BR2 := aM (aD (kA BR.out (.cells #[.int .u8 f1, .slice A1 n1 m1] 49)) hb); have BN2 := aM (aD (kA BN.out (.cells #[.int .u8 f1, .slice A1 n1 m1] 49)) hb); have BT := aM (aD (blk_new w1 (.cells #[.int .u8 f1, .slice A1 n1 m1] 49)) hb); have HB2 := aM (aE (bA HB1.out (.cells #[.int .u8 f1, .slice A1 n1 m1] 49)) hb); have HP2 := aM hp2; have GR := aM hb; have l30 := blk_lt BR2.out; have l31 : w.heap.size < w2.heap.size + 1 := (by omega); have l32 : w.heap.size < w2.heap.size + 1 + 1 := (by omega); have l40 := blk_lt BN2.out; have l41 : w.heap.size + 1 + 1 < w2.heap.size + 1 := (by omega); have l50_ := blk_lt BT.out; have l51_ : w1.heap.size < w2.heap.size + 1 := (by omega); have e30 := aA BR2.out 0; have e31 := aA BR2.out 1; have f30 := aC BR2.out 0; have f31 := aC BR2.out 1; have e40 := aA BN2.out 0; have e41 := aA BN2.out 1; have f40 := aC BN2.out 0; have f41 := aC BN2.out 1; have e50 := aA BT.out 0; have e51 := aA BT.out 1; have f50 := aC BT.out 0; have f51 := aC BT.out 1; clear hb hp2))
  go_region
  try go_wp2
  refine cF (cG rfl _ _ w.heap.size 49 (#[.int .u8 38, .slice (some ⟨w2.heap.size + 1, 0, none⟩) 2 2]) (0, 0) _ rfl ?hg Try.underlying49 rfl (by kernel_rfl)) rfl ?_; (case hg => (repeat (first | with_reducible refine kA ?_ _ | with_reducible refine kD ?_)); refine bV (cs := #[.int .u8 38, .slice none 0 0]) ?_ 1 _ rfl; refine bV (cs := #[.int .u8 0, .slice none 0 0]) ?_ 0 _ rfl; exact BR2.out)
  have lo0 : (((w.alloc (.cells #[.int .u8 0, .slice none 0 0] 49)).alloc (.cells #[] 49)).alloc (.cells #[.int .u8 48, .slice (some ⟨w.heap.size + 1, 0, none⟩) 0 0] 49)).heap.size = w.heap.size + 1 + 1 + 1 := by rw [bW, bW, bW]
  have lo1 : (w1.alloc (.cells #[.int .u8 f1, .slice A1 n1 m1] 49)).heap.size = w1.heap.size + 1 := bW ..
  have g1 := HB1.out.size
  have hsz : (((((w2.setCell ⟨w.heap.size, 0, none⟩ (.int .u8 38)).setCell ⟨w.heap.size, 1, none⟩ (.slice (some ⟨w2.heap.size + 1, 0, none⟩) 2 2)).alloc (.cells #[.int .u8 f2, .slice A2 n2 m2] 49)).alloc (.cells #[.int .u8 f1, .slice A1 n1 m1, .int .u8 f2, .slice A2 n2 m2] 49)).drew).heap.size = w2.heap.size + 1 + 1 := by show (World.alloc _ _).heap.size = _; rw [bW, bW]; simp [World.setCell]
  have far : ∀ i, w.heap.size + 1 ≤ i → i < w2.heap.size → (((((w2.setCell ⟨w.heap.size, 0, none⟩ (.int .u8 38)).setCell ⟨w.heap.size, 1, none⟩ (.slice (some ⟨w2.heap.size + 1, 0, none⟩) 2 2)).alloc (.cells #[.int .u8 f2, .slice A2 n2 m2] 49)).alloc (.cells #[.int .u8 f1, .slice A1 n1 m1, .int .u8 f2, .slice A2 n2 m2] 49)).drew).heap[i]? = w2.heap[i]? := fun i h1 h2 => by show (World.alloc _ _).heap[i]? = _; rw [Below.heap_alloc _ _ _ (by rw [bW]; simp [World.setCell]; omega), Below.heap_alloc _ _ _ (by simp [World.setCell]; omega), Below.heap_setCell _ _ _ _ (by show i ≠ w.heap.size; omega), Below.heap_setCell _ _ _ _ (by show i ≠ w.heap.size; omega)]
  have far1 : ∀ i, i < w1.heap.size → w2.heap[i]? = w1.heap[i]? := fun i h1 => (GR.out.block i (by omega)).trans (Below.heap_alloc _ _ _ h1)
  have sz2 := GR.out.size
  exact ⟨_, _, _, _, rfl, ⟨w2.heap.size + 1, f1, A1, n1, m1, _, w1.heap.size, f2, A2, n2, m2, _, w2.heap.size, rfl, rfl, rfl, cD _, by omega, by rw [hsz]; omega, by rw [lo0]; omega, by rw [hsz]; omega, by rw [lo1]; omega, by rw [hsz]; omega, kD (spec_l7Read.new2 _ _ _ _ (by simp [World.setCell])), hP _ _ _ _ _ _ _ _ HP1.out fun i h1 h2 => (far i (by omega) (by omega)).trans (far1 i h2), hQ _ _ _ _ _ _ _ _ HP2.out fun i h1 h2 => far i (by omega) h2⟩, b1 (bA (bA ((HB2.out.setCell (p := ⟨w.heap.size, 0, none⟩) (cD _) _).setCell (p := ⟨w.heap.size, 1, none⟩) (cD _) _) _) _)⟩
theorem spec_l7Read.ext_size (s : ByteArray) (p : Nat) : (s.extract p s.size).size = s.size - p := by simp
theorem spec_l7Read.ext_next (s : ByteArray) (p : Nat) (h : p < s.size) : (s.extract p s.size).extract 1 (s.extract p s.size).size = s.extract (p + 1) s.size := by
 rw [ByteArray.extract_extract]
 congr 1
 simp; omega
theorem spec_l7Read.ext_bt (s : ByteArray) (p : Nat) (h : p < s.size) : bt (s.extract p s.size) 0 = bt s (p : Int) := by
 have h2 : (0 : Int).toNat < (s.extract p s.size).size := by rw [spec_l7Read.ext_size]; simp; omega
 rw [← bt_at _ 0 h2, ← bt_at s (p : Int) (by simpa using h)]
 congr 2
 rw [ByteArray.getElem_extract]
 simp
/-- The cells say the tree, whatever happens outside of [lo, hi). -/
def spec_l7Read.Is (t : Tm) (lo hi : Nat) (W : World) (f : Int) (A : Option Addr) (n m : Nat) : Prop := f = t.toS.f0 ∧ n = t.toS.f1.length ∧ n ≤ m ∧ ∀ W' : World, (∀ i, lo ≤ i → i < hi → W'.heap[i]? = W.heap[i]?) → k49.C W' A n t.toS.f1
theorem spec_l7Read.Is.move (t : Tm) : ∀ lo hi W W' f A n m, spec_l7Read.Is t lo hi W f A n m → (∀ i, lo ≤ i → i < hi → W'.heap[i]? = W.heap[i]?) → spec_l7Read.Is t lo hi W' f A n m :=
 fun lo hi W W' f A n m h k => ⟨h.1, h.2.1, h.2.2.1, fun W2 h2 => h.2.2.2 W2 fun i a b => (h2 i a b).trans (k i a b)⟩
theorem spec_l7Read.none_of {P : Nat → Nat → World → Int → Option Addr → Nat → Nat → Prop} {z : Int} {w w' : World} {e : Ending} (h : spec_l7Read.Hands P z w e w') : spec_l7Read.Hands (fun _ _ _ _ _ _ _ => True) z w e w' := by
 obtain ⟨f, A, n, m, h1, _, h3⟩ := h
 exact ⟨f, A, n, m, h1, trivial, h3⟩
theorem spec_l7Read.calls (n : Nat) : ∀ (s : ByteArray) (p : Nat) (w : World), p ≤ s.size → s.size - p < n → s.size ≤ 1000 →
  (Tm.parse n (s.extract p s.size) = none → Calls Try.prog 43 #[.string s, .int .i64 p] w (spec_l7Read.Hands (fun _ _ _ _ _ _ _ => True) 0 w)) ∧
  (∀ t r, Tm.parse n (s.extract p s.size) = some (t, r) → ∃ q : Nat, p < q ∧ q ≤ s.size ∧ r = s.extract q s.size ∧ Calls Try.prog 43 #[.string s, .int .i64 p] w (spec_l7Read.Hands (spec_l7Read.Is t) q w)) := by
 induction n with
 | zero => intro s p w _ h; omega
 | succ n ih =>
  intro s p w hp h hs
  by_cases h0 : p < s.size
  case neg =>
   have e0 : (s.extract p s.size).size = 0 := by rw [spec_l7Read.ext_size]; omega
   refine ⟨fun _ => spec_l7Read.past s p w h0, fun t r k => ?_⟩
   unfold Tm.parse at k
   rw [if_pos e0] at k; cases k
  have hne : ¬ (s.extract p s.size).size = 0 := by rw [spec_l7Read.ext_size]; omega
  have hbt := spec_l7Read.ext_bt s p h0
  have hnx := spec_l7Read.ext_next s p h0
  unfold Tm.parse
  rw [if_neg hne, hbt, hnx]
  have i1 := fun W => ih s (p + 1) W (by omega) (by omega) hs
  have cst : ((p + 1 : Nat) : Int) = (p : Int) + 1 := by omega
  by_cases h1 : bt s (p : Int) = 48 ∨ bt s (p : Int) = 49 ∨ bt s (p : Int) = 97
  ·rw [if_pos h1]
   refine ⟨(fun k => by cases k), fun t r k => ?_⟩
   obtain ⟨rfl, rfl⟩ := Prod.mk.inj (bU k)
   refine ⟨p + 1, by omega, by omega, rfl, ?_⟩
   rw [cst]
   refine (spec_l7Read.leaf s p w h0 hs _ rfl h1).mono ?_
   rintro e w' ⟨f, A, n, m, k1, ⟨k2, k3⟩, k4⟩
   refine ⟨f, A, n, m, k1, ⟨k2, k3, by omega, fun W' _ => ?_⟩, k4⟩
   subst k3
   exact ⟨rfl, by decide, fun h => absurd h (by decide)⟩
  rw [if_neg h1]
  by_cases h2 : bt s (p : Int) = 42 ∨ (50 ≤ bt s (p : Int) ∧ bt s (p : Int) ≤ 53)
  ·rw [if_pos h2]
   cases hp1 : Tm.parse n (s.extract (p + 1) s.size) with
   | none =>
    refine ⟨fun _ => ?_, fun t r k => by simp at k⟩
    have i2 := fun W => (i1 W).1 hp1
    rw [cst] at i2
    exact (spec_l7Read.un s p w h0 hs _ rfl h2 _ (fun _ _ _ _ _ _ _ _ _ _ => trivial) 0 i2).mono fun e w' h => spec_l7Read.none_of h
   | some x =>
    obtain ⟨a, r⟩ := x
    refine ⟨fun k => by simp at k, fun t r' k => ?_⟩
    simp only [bR, aV, aW] at k
    obtain ⟨rfl, rfl⟩ := k
    obtain ⟨q, q1, q2, q3, _⟩ := (i1 w).2 a r hp1
    have i2 : ∀ W, Calls Try.prog 43 #[.string s, .int .i64 ((p : Int) + 1)] W (spec_l7Read.Hands (spec_l7Read.Is a) q W) := by
     intro W
     obtain ⟨q', q1', q2', q3', k⟩ := (i1 W).2 a r hp1
     have : q' = q := by
      have e1 := congrArg ByteArray.size (q3'.symm.trans q3)
      rw [spec_l7Read.ext_size, spec_l7Read.ext_size] at e1
      omega
     rw [this, cst] at k
     exact k
    refine ⟨q, by omega, q2, q3, (spec_l7Read.un s p w h0 hs _ rfl h2 _ (spec_l7Read.Is.move a) q i2).mono ?_⟩
    rintro e w' ⟨f, A, n, m, k1, ⟨g, f1, A1, n1, m1, lo1, hi1, rfl, rfl, rfl, hm, g1, g2, g3, g4, g5, rfl, rfl, g6, g7⟩, k4⟩
    refine ⟨_, _, _, _, k1, ⟨rfl, rfl, hm, fun W' hW => ?_⟩, k4⟩
    exact spec_l7Read.row1 ((hW g g1 g2).trans g5) rfl rfl g6 (g7 W' fun i a b => hW i (by omega) (by omega))
  rw [if_neg h2]
  by_cases h3 : bt s (p : Int) = 40
  case neg =>
   rw [if_neg h3]
   exact ⟨fun _ => spec_l7Read.bad s p w h0 hs _ rfl h1 h2 h3, fun t r k => by cases k⟩
  rw [if_pos h3]
  cases hp1 : Tm.parse n (s.extract (p + 1) s.size) with
  | none =>
   refine ⟨fun _ => ?_, fun t r k => by simp at k⟩
   have i2 := fun W => (i1 W).1 hp1
   rw [cst] at i2
   exact spec_l7Read.two_z s p w h0 hs h3 _ i2
  | some x =>
   obtain ⟨a, r⟩ := x
   simp only [bR]
   obtain ⟨m, q1, q2, q3, _⟩ := (i1 w).2 a r hp1
   have i2 : ∀ W, Calls Try.prog 43 #[.string s, .int .i64 ((p : Int) + 1)] W (spec_l7Read.Hands (spec_l7Read.Is a) m W) := by
    intro W
    obtain ⟨q', q1', q2', q3', k⟩ := (i1 W).2 a r hp1
    have : q' = m := by
     have e1 := congrArg ByteArray.size (q3'.symm.trans q3)
     rw [spec_l7Read.ext_size, spec_l7Read.ext_size] at e1
     omega
    rw [this, cst] at k
    exact k
   subst q3
   rw [spec_l7Read.ext_size]
   by_cases h4 : m < s.size
   case neg =>
    rw [if_pos (by omega)]
    exact ⟨fun _ => spec_l7Read.two_past s p w h0 hs h3 m (by omega) h4 _ i2, fun t r k => by cases k⟩
   rw [if_neg (by omega), spec_l7Read.ext_bt s m h4]
   by_cases h5 : bt s (m : Int) = 43 ∨ bt s (m : Int) = 46 ∨ bt s (m : Int) = 38
   case neg =>
    rw [if_neg h5]
    exact ⟨fun _ => spec_l7Read.two_sign s p w h0 hs h3 m (by omega) h4 _ rfl h5 _ i2, fun t r k => by cases k⟩
   have hnx2 := spec_l7Read.ext_next s m h4
   rw [spec_l7Read.ext_size] at hnx2
   rw [if_pos h5, hnx2]
   have cst2 : ((m + 1 : Nat) : Int) = (m : Int) + 1 := by omega
   have j1 := fun W => ih s (m + 1) W (by omega) (by omega) hs
   cases hq1 : Tm.parse n (s.extract (m + 1) s.size) with
   | none =>
    refine ⟨fun _ => ?_, fun t r k => by simp at k⟩
    have j2 := fun W => (j1 W).1 hq1
    rw [cst2] at j2
    exact spec_l7Read.two2_z s p w h0 hs h3 m (by omega) h4 _ rfl h5 _ i2 _ j2
   | some y =>
    obtain ⟨b, r2⟩ := y
    simp only [bR]
    obtain ⟨q, u1, u2, u3, _⟩ := (j1 w).2 b r2 hq1
    have j2 : ∀ W, Calls Try.prog 43 #[.string s, .int .i64 ((m : Int) + 1)] W (spec_l7Read.Hands (spec_l7Read.Is b) q W) := by
     intro W
     obtain ⟨q', q1', q2', q3', k⟩ := (j1 W).2 b r2 hq1
     have : q' = q := by
      have e1 := congrArg ByteArray.size (q3'.symm.trans u3)
      rw [spec_l7Read.ext_size, spec_l7Read.ext_size] at e1
      omega
     rw [this, cst2] at k
     exact k
    subst u3
    rw [spec_l7Read.ext_size]
    by_cases h6 : q < s.size
    case neg =>
     rw [if_pos (by omega)]
     exact ⟨fun _ => spec_l7Read.two2_past s p w h0 hs h3 m (by omega) h4 _ rfl h5 _ i2 q (by omega) h6 _ j2, fun t r k => by cases k⟩
    rw [if_neg (by omega), spec_l7Read.ext_bt s q h6]
    by_cases h7 : bt s (q : Int) = 41
    case neg =>
     rw [if_neg h7]
     exact ⟨fun _ => spec_l7Read.two2_shut s p w h0 hs h3 m (by omega) h4 _ rfl h5 _ i2 q (by omega) h6 _ rfl h7 _ j2, fun t r k => by cases k⟩
    have hnx3 := spec_l7Read.ext_next s q h6
    rw [spec_l7Read.ext_size] at hnx3
    rw [if_pos h7, hnx3]
    refine ⟨(fun k => by cases k), fun t r k => ?_⟩
    obtain ⟨rfl, rfl⟩ := Prod.mk.inj (bU k)
    refine ⟨q + 1, by omega, by omega, rfl, ?_⟩
    rw [show ((q + 1 : Nat) : Int) = (q : Int) + 1 by omega]
    refine (spec_l7Read.two_yes s p w h0 hs h3 m (by omega) h4 _ rfl h5 _ i2 q (by omega) h6 h7 _ j2 (spec_l7Read.Is.move a) (spec_l7Read.Is.move b)).mono ?_
    rintro e w' ⟨f, A, n, m', k1, ⟨g, f1, A1, n1, m1, lo1, hi1, f2, A2, n2, m2, lo2, hi2, rfl, rfl, rfl, hm, g1, g2, g3, g4, g5, g6, g7, ⟨rfl, rfl, a3, a4⟩, ⟨rfl, rfl, b3, b4⟩⟩, k4⟩
    refine ⟨_, _, _, _, k1, ⟨rfl, rfl, hm, fun W' hW => ?_⟩, k4⟩
    exact spec_l7Read.row2 ((hW g g1 g2).trans g7) rfl rfl rfl rfl a3 b3 (a4 W' fun i a b => hW i (by omega) (by omega)) (b4 W' fun i a b => hW i (by omega) (by omega))

/-- What the function hands back (the term is that of impl_termOf.calls). -/
def spec_l7Of.Res (w : World) : Option Tm → Ending → World → Prop
 | none, e, w' => ∃ f A n m, e = .returned (.tuple #[.agg #[.int .u8 f, .slice A n m], .bool false]) ∧ Below w.heap.size w w'
 | some t, e, w' => ∃ A m, e = .returned (.tuple #[.agg #[.int .u8 t.toS.f0, .slice A t.toS.f1.length m], .bool true]) ∧ t.toS.f1.length ≤ m ∧ k49.C w' A t.toS.f1.length t.toS.f1 ∧ Below w.heap.size w w'
set_option maxHeartbeats 4000000 in
set_option maxRecDepth 100000 in
theorem spec_l7Of.long (s : ByteArray) (w : World) (h : ¬ s.size ≤ 60) :
  Calls Try.prog 28 #[.string s] w (spec_l7Of.Res w none) := by
 have hl : (60 : Int) < (s.size : Int) := by omega
 go_enter Try.func28, Try.ntmps28
 go_wp2
 refine cF (cG rfl _ _ w.heap.size 49 (#[.int .u8 48, .slice (some ⟨w.heap.size + 1, 0, none⟩) 0 0]) (0, 0) _ rfl ?hg Try.underlying49 rfl (by kernel_rfl)) rfl ?_; (case hg => repeat (first | with_reducible exact blk_new _ _ | with_reducible refine kA ?_ _))
 exact ⟨_, _, _, _, rfl, by repeat (first | with_reducible exact cE _ _ | with_reducible apply bA)⟩
set_option maxHeartbeats 4000000 in
set_option maxRecDepth 100000 in
theorem spec_l7Of.no (s : ByteArray) (w : World) (h : s.size ≤ 60) (P : Nat → Nat → World → Int → Option Addr → Nat → Nat → Prop) (ih : ∀ W, Calls Try.prog 43 #[.string s, .int .i64 0] W (spec_l7Read.Hands P 0 W)) :
  Calls Try.prog 28 #[.string s] w (spec_l7Of.Res w none) := by
 have hl : ¬ (60 : Int) < (s.size : Int) := by omega
 have IH := aM ih
 clear ih
 go_enter Try.func28, Try.ntmps28
 go_wp2_with (go_at_call 43; refine (IH.out _).mono ?_; rintro e w1 ⟨f1, A1, n1, m1, rfl, hp1, hb⟩; obtain ⟨s1, s2, s3⟩ := spec_l7Read.start w; have BR := aM (aD s1 hb); have BN := aM (aD s2 hb); have HB1 := aM (aE s3 hb); have l10 := blk_lt BR.out; have l20 := blk_lt BN.out; have e10 := aA BR.out 0; have e11 := aA BR.out 1; have f10 := aC BR.out 0; have f11 := aC BR.out 1; have e20 := aA BN.out 0; have e21 := aA BN.out 1; clear s1 s2 s3 hb hp1)
 refine cF (cG rfl _ _ w.heap.size 49 (#[.int .u8 48, .slice (some ⟨w.heap.size + 1, 0, none⟩) 0 0]) (0, 0) _ rfl ?hg Try.underlying49 rfl (by kernel_rfl)) rfl ?_; (case hg => (repeat (with_reducible refine kA ?_ _)); refine bV (cs := #[.int .u8 48, .slice none 0 0]) ?_ 1 _ rfl; refine bV (cs := #[.int .u8 0, .slice none 0 0]) ?_ 0 _ rfl; (repeat (fail)); exact BR.out)
 exact ⟨_, _, _, _, rfl, by repeat (first | with_reducible exact HB1.out | with_reducible apply bA | with_reducible refine Below.setCell (p := ⟨w.heap.size, 1, none⟩) ?_ (cD _) _ | with_reducible refine Below.setCell (p := ⟨w.heap.size, 0, none⟩) ?_ (cD _) _)⟩
set_option maxHeartbeats 4000000 in
set_option maxRecDepth 100000 in
theorem spec_l7Of.rest (s : ByteArray) (w : World) (h : s.size ≤ 60) (q : Nat) (hq : 1 ≤ q) (hq2 : ¬ q = s.size) (P : Nat → Nat → World → Int → Option Addr → Nat → Nat → Prop) (ih : ∀ W, Calls Try.prog 43 #[.string s, .int .i64 0] W (spec_l7Read.Hands P q W)) :
  Calls Try.prog 28 #[.string s] w (spec_l7Of.Res w none) := by
 have hl : ¬ (60 : Int) < (s.size : Int) := by omega
 have IH := aM ih
 clear ih
 have z0 : ((q : Int) == 0) = false := beq_eq_false_iff_ne.mpr (by omega)
 have z1 : ¬ (q : Int) = 0 := by omega
 have zl : ((q : Int) != (s.size : Int)) = true := bne_iff_ne.mpr (by omega)
 go_enter Try.func28, Try.ntmps28
 go_wp2_with (go_at_call 43; refine (IH.out _).mono ?_; rintro e w1 ⟨f1, A1, n1, m1, rfl, hp1, hb⟩; obtain ⟨s1, s2, s3⟩ := spec_l7Read.start w; have BR := aM (aD s1 hb); have BN := aM (aD s2 hb); have HB1 := aM (aE s3 hb); have l10 := blk_lt BR.out; have l20 := blk_lt BN.out; have e10 := aA BR.out 0; have e11 := aA BR.out 1; have f10 := aC BR.out 0; have f11 := aC BR.out 1; have e20 := aA BN.out 0; have e21 := aA BN.out 1; clear s1 s2 s3 hb hp1)
 refine cF (cG rfl _ _ w.heap.size 49 (#[.int .u8 48, .slice (some ⟨w.heap.size + 1, 0, none⟩) 0 0]) (0, 0) _ rfl ?hg Try.underlying49 rfl (by kernel_rfl)) rfl ?_; (case hg => (repeat (with_reducible refine kA ?_ _)); refine bV (cs := #[.int .u8 48, .slice none 0 0]) ?_ 1 _ rfl; refine bV (cs := #[.int .u8 0, .slice none 0 0]) ?_ 0 _ rfl; (repeat (fail)); exact BR.out)
 exact ⟨_, _, _, _, rfl, by repeat (first | with_reducible exact HB1.out | with_reducible apply bA | with_reducible refine Below.setCell (p := ⟨w.heap.size, 1, none⟩) ?_ (cD _) _ | with_reducible refine Below.setCell (p := ⟨w.heap.size, 0, none⟩) ?_ (cD _) _)⟩
set_option maxHeartbeats 4000000 in
set_option maxRecDepth 100000 in
theorem spec_l7Of.yes (s : ByteArray) (w : World) (h : s.size ≤ 60) (q : Nat) (hq : 1 ≤ q) (hq2 : q = s.size) (t : Tm) (ih : ∀ W, Calls Try.prog 43 #[.string s, .int .i64 0] W (spec_l7Read.Hands (spec_l7Read.Is t) q W)) :
  Calls Try.prog 28 #[.string s] w (spec_l7Of.Res w (some t)) := by
 have hl : ¬ (60 : Int) < (s.size : Int) := by omega
 have IH := aM ih
 clear ih
 have z0 : ((q : Int) == 0) = false := beq_eq_false_iff_ne.mpr (by omega)
 have zl2 : (q : Int) = (s.size : Int) := by omega
 have zl3 : ((s.size : Int) == 0) = false := by rw [← zl2]; exact z0
 go_enter Try.func28, Try.ntmps28
 go_wp2_with (go_at_call 43; refine (IH.out _).mono ?_; rintro e w1 ⟨f1, A1, n1, m1, rfl, hp1, hb⟩; obtain ⟨s1, s2, s3⟩ := spec_l7Read.start w; have BR := aM (aD s1 hb); have HB1 := aM (aE s3 hb); have HP1 := aM hp1; have l10 := blk_lt BR.out; have e10 := aA BR.out 0; have e11 := aA BR.out 1; have f10 := aC BR.out 0; have f11 := aC BR.out 1; clear s1 s2 s3 hb hp1)
 refine cF (cG rfl _ _ w.heap.size 49 (#[.int .u8 f1, .slice A1 n1 m1]) (0, 0) _ rfl ?hg Try.underlying49 rfl (by kernel_rfl)) rfl ?_; (case hg => (repeat (with_reducible refine kA ?_ _)); refine bV (cs := #[.int .u8 f1, .slice none 0 0]) ?_ 1 _ rfl; refine bV (cs := #[.int .u8 0, .slice none 0 0]) ?_ 0 _ rfl; (repeat (fail)); exact BR.out)
 obtain ⟨rfl, rfl, p3, p4⟩ := HP1.out
 have lo0 : (((w.alloc (.cells #[.int .u8 0, .slice none 0 0] 49)).alloc (.cells #[] 49)).alloc (.cells #[.int .u8 48, .slice (some ⟨w.heap.size + 1, 0, none⟩) 0 0] 49)).heap.size = w.heap.size + 1 + 1 + 1 := by rw [bW, bW, bW]
 refine ⟨_, _, rfl, p3, p4 _ fun i h1 h2 => ?_, by repeat (first | with_reducible exact HB1.out | with_reducible apply bA | with_reducible refine Below.setCell (p := ⟨w.heap.size, 1, none⟩) ?_ (cD _) _ | with_reducible refine Below.setCell (p := ⟨w.heap.size, 0, none⟩) ?_ (cD _) _)⟩
 rw [lo0] at h1
 first | (rw [Below.heap_alloc _ _ _ (by simp [World.setCell]; omega), Below.heap_setCell _ _ _ _ (by show i ≠ w.heap.size; omega), Below.heap_setCell _ _ _ _ (by show i ≠ w.heap.size; omega)])
theorem spec_l7Of.calls (s : ByteArray) (w : World) : Calls Try.prog 28 #[.string s] w (spec_l7Of.Res w (Tm.of s)) := by
 unfold Tm.of
 by_cases h : s.size ≤ 60
 ·rw [if_pos h]
  have hx : s.extract 0 s.size = s := by simp
  have C := fun W => spec_l7Read.calls 61 s 0 W (by omega) (by omega) (by omega)
  rw [hx] at C
  cases hp : Tm.parse 61 s with
  | none => exact spec_l7Of.no s w h _ (fun W => (C W).1 hp)
  | some x =>
   obtain ⟨t, r⟩ := x
   obtain ⟨q, q1, q2, q3, _⟩ := (C w).2 t r hp
   have i : ∀ W, Calls Try.prog 43 #[.string s, .int .i64 0] W (spec_l7Read.Hands (spec_l7Read.Is t) q W) := by
    intro W
    obtain ⟨q', q1', q2', q3', k⟩ := (C W).2 t r hp
    have : q' = q := by
     have e1 := congrArg ByteArray.size (q3'.symm.trans q3)
     rw [spec_l7Read.ext_size, spec_l7Read.ext_size] at e1
     omega
    rw [this] at k
    exact k
   simp only [bR]
   by_cases hr : r.size = 0
   ·rw [if_pos hr]
    exact spec_l7Of.yes s w h q (by omega) (by rw [q3, spec_l7Read.ext_size] at hr; omega) t i
   ·rw [if_neg hr]
    exact spec_l7Of.rest s w h q (by omega) (by rw [q3, spec_l7Read.ext_size] at hr; omega) _ i
 ·rw [if_neg h]; exact spec_l7Of.long s w h

def spec_l1Signs.l0 : Nat → ByteArray → List Bool → Int → Option (List Bool × Bool)
 | 0, _, _, _ => none
 | k + 1, x0, x4, x5 => if x5 < (x0.size : Int) then (if 0 ≤ x5 then (if (bt x0 x5) = 48 then (if x4.length < 140737488355328 then (spec_l1Signs.l0 k x0 (x4 ++ [((bt x0 x5) == 49)]) (wrap64 (x5 + 1))) else (none)) else (if (bt x0 x5) = 49 then (if x4.length < 140737488355328 then (spec_l1Signs.l0 k x0 (x4 ++ [true]) (wrap64 (x5 + 1))) else (none)) else (some ((([] : List Bool)), false)))) else (none)) else (some (x4, true))
def spec_l1Signs.f (k : Nat) (a0 : ByteArray) : Option (List Bool × Bool) := spec_l1Signs.l0 k a0 (([] : List Bool)) 0
set_option maxHeartbeats 8000000 in
set_option maxRecDepth 100000 in
theorem spec_l1Signs.calls (k : Nat) (a0 : ByteArray) (r1 : List Bool) (r2 : Bool) (w : World) (h : spec_l1Signs.f k a0 = some (r1, r2)) :
  Calls Try.prog 104 #[.string a0] w fun e w' => ∃ v0_ : Value, e = .returned (.tuple #[v0_, .bool r2]) ∧ Kd.R Kd.bool 4 w' w.heap.size (fun _ => True) v0_ r1 ∧ Below w.heap.size w w' := by
 have HB := aM (cE w.heap.size w)
 have H : (spec_l1Signs.l0 k a0 (([] : List Bool)) 0) = some (r1, r2) := h
 clear h
 obtain ⟨y384, hy384⟩ : ∃ y_ : List Bool, y_ = (([] : List Bool)) := ⟨_, rfl⟩
 replace H : (spec_l1Signs.l0 k a0 y384 0) = some (r1, r2) := by first | (rw [hy384]; with_reducible exact H)
 have Ny384 := aM hy384
 clear hy384
 have H' := aM H
 clear H
 go_enter Try.func104, Try.ntmps104
 go_wp2_with (first | ((with_reducible refine aZ (N := 6) rfl ?_); refine Kd.R_lit Kd.bool _ 4 ?hg (N := 6) ?hd (xs := ([] : List Bool)) (inner := []) (ok := fun _ => True) (okp := fun _ => True) ?hr ?hp (fun _ hk => hk) trivial (cE _ _) (cD _) (by simp) ?_; (case hd => rfl); (case hg => rfl); (case hr => first | (go_simp; done)); (case hp => exact (Reps.none _ _)); intro v385 w2 ho3 hb hg_ hnew_; clear hg_ hnew_; (rw [← Ny384.out] at ho3); have HO386 := aM (bP ho3 (aG HB.out)); replace HB := aM (aE HB.out hb); clear hb ho3))
 go_loopg [4, 5] k (fun kq v4 v5 w' => ∃ (x4_1 : List Bool) (x5_1 : Int), v5 = .int .i64 x5_1 ∧ Aside0 (spec_l1Signs.l0 kq a0 x4_1 x5_1 = some (r1, r2)) ∧ Aside0 (kq ≤ k) ∧ Aside0 (Kd.R Kd.bool 4 w' w.heap.size (fun _ => True) v4 x4_1) ∧ Aside0 (Below w.heap.size w w'))
 case atStart => exact ⟨(y384), (0), (by rfl), H', ⟨cD _⟩, ⟨by exact HO386.out⟩, ⟨HB.out⟩⟩
 case round =>
  clear H'
  obtain ⟨x4_1, x5_1, rfl, HA, HK1, HO_4, HB⟩ := hrel
  cases gk with
  | zero => exact absurd HA.out (by simp [spec_l1Signs.l0])
  | succ k1 =>
   have H := HA.out
   clear HA
   simp only [spec_l1Signs.l0] at H
   by_cases c4 : x5_1 < (a0.size : Int)
   ·rw [if_pos c4] at H
    have c4b0 : decide (x5_1 < (a0.size : Int)) = true := aH c4
    clear c4
    by_cases c5 : 0 ≤ x5_1
    ·rw [if_pos c5] at H
     have c5b0 : decide (0 ≤ x5_1) = true := aH c5
     clear c5
     by_cases c7 : (bt a0 x5_1) = 48
     ·rw [if_pos c7] at H
      have c7b0 : ((bt a0 x5_1) == 48) = true := beq_iff_eq.mpr c7
      have c7b1 : ((bt a0 x5_1) != 48) = false := bne_eq_false_iff_eq.mpr c7
      clear c7
      by_cases c9 : x4_1.length < 140737488355328
      ·rw [if_pos c9] at H
       have LMc9 := aM c9
       clear c9
       obtain ⟨y387, hy387⟩ : ∃ y_ : List Bool, y_ = (x4_1 ++ [((bt a0 x5_1) == 49)]) := ⟨_, rfl⟩
       replace H : (spec_l1Signs.l0 k1 a0 y387 (wrap64 (x5_1 + 1))) = some (r1, r2) := by first | (rw [hy387]; with_reducible exact H)
       have Ny387 := aM hy387
       clear hy387
       have H' := aM H
       clear H
       have p6 : 0 ≤ (x5_1 : Int) := aJ (by (with_reducible assumption))
       have q6 : x5_1 < (a0.size : Int) := aJ (by (with_reducible assumption))
       have hx6 := bt_at a0 x5_1
       replace p6 := eq_true p6
       replace q6 := eq_true q6
       go_wp2_with (first | ((with_reducible refine gate_builtin (b := .append) (xs := #[.tmp 24, .tmp 29]) rfl ?_); at_builtin; refine Kd.R_append Kd.bool (w0 := w) w.heap.size rfl (.tmp 24) (.tmp 29) 52 4 (.bool false) 1 rfl Try.underlying52 info4 rfl (by decide) (by omega) u4 x4_1 ((bt a0 x5_1) == 49) [.bool ((bt a0 x5_1) == 49)] (fun _ => True) (fun _ => False) rfl rfl ?aP (fun _ hk => hk.elim) ?aF ?aO ?aB ?aS ?aL ?_; (case aP => exact rfl); (case aB => exact HB.out); (case aF => exact (fun _ _ => trivial)); (case aO => exact HO_4.out); (case aS => exact (aG HB.out)); (case aL => have := LMc9.out; omega); intro v388 w10 ho hb hg hat; rw [← Ny387.out] at ho; replace HB := aM hb; have HO389 := aM ho; clear HO_4; clear ho hb hg hat))
       go_roundg k1
       case measure => have := HK1.out; omega
       case rel => exact ⟨(y387), (wrap64 (x5_1 + 1)), (by rfl), H', ⟨by have := HK1.out; omega⟩, ⟨by exact HO389.out⟩, ⟨HB.out⟩⟩
      ·rw [if_neg c9] at H
       exact absurd H (by simp)
     ·rw [if_neg c7] at H
      have c7b0 : ((bt a0 x5_1) == 48) = false := beq_eq_false_iff_ne.mpr c7
      have c7b1 : ((bt a0 x5_1) != 48) = true := bne_iff_ne.mpr c7
      by_cases c12 : (bt a0 x5_1) = 49
      ·rw [if_pos c12] at H
       have c12b0 : ((bt a0 x5_1) == 49) = true := beq_iff_eq.mpr c12
       have c12b1 : ((bt a0 x5_1) != 49) = false := bne_eq_false_iff_eq.mpr c12
       clear c12
       by_cases c14 : x4_1.length < 140737488355328
       ·rw [if_pos c14] at H
        have LMc14 := aM c14
        clear c14
        obtain ⟨y390, hy390⟩ : ∃ y_ : List Bool, y_ = (x4_1 ++ [true]) := ⟨_, rfl⟩
        replace H : (spec_l1Signs.l0 k1 a0 y390 (wrap64 (x5_1 + 1))) = some (r1, r2) := by first | (rw [hy390]; with_reducible exact H)
        have Ny390 := aM hy390
        clear hy390
        have H' := aM H
        clear H
        have p6 : 0 ≤ (x5_1 : Int) := aJ (by (with_reducible assumption))
        have q6 : x5_1 < (a0.size : Int) := aJ (by (with_reducible assumption))
        have hx6 := bt_at a0 x5_1
        replace p6 := eq_true p6
        replace q6 := eq_true q6
        go_wp2_with (first | ((with_reducible refine gate_builtin (b := .append) (xs := #[.tmp 24, .tmp 29]) rfl ?_); at_builtin; refine Kd.R_append Kd.bool (w0 := w) w.heap.size rfl (.tmp 24) (.tmp 29) 52 4 (.bool false) 1 rfl Try.underlying52 info4 rfl (by decide) (by omega) u4 x4_1 true [.bool true] (fun _ => True) (fun _ => False) rfl rfl ?aP (fun _ hk => hk.elim) ?aF ?aO ?aB ?aS ?aL ?_; (case aP => exact rfl); (case aB => exact HB.out); (case aF => exact (fun _ _ => trivial)); (case aO => exact HO_4.out); (case aS => exact (aG HB.out)); (case aL => have := LMc14.out; omega); intro v391 w15 ho hb hg hat; rw [← Ny390.out] at ho; replace HB := aM hb; have HO392 := aM ho; clear HO_4; clear ho hb hg hat))
        go_roundg k1
        case measure => have := HK1.out; omega
        case rel => exact ⟨(y390), (wrap64 (x5_1 + 1)), (by rfl), H', ⟨by have := HK1.out; omega⟩, ⟨by exact HO392.out⟩, ⟨HB.out⟩⟩
       ·rw [if_neg c14] at H
        exact absurd H (by simp)
      ·rw [if_neg c12] at H
       have c12b1 : ((bt a0 x5_1) != 49) = true := bne_iff_ne.mpr c12
       obtain ⟨y393, hy393⟩ : ∃ y_ : List Bool, y_ = (([] : List Bool)) := ⟨_, rfl⟩
       replace H : (some (y393, false)) = some (r1, r2) := by first | (rw [hy393]; with_reducible exact H)
       have Ny393 := aM hy393
       clear hy393
       simp only [aV, aW] at H
       obtain ⟨rfl, rfl⟩ := H
       have p6 : 0 ≤ (x5_1 : Int) := aJ (by (with_reducible assumption))
       have q6 : x5_1 < (a0.size : Int) := aJ (by (with_reducible assumption))
       have hx6 := bt_at a0 x5_1
       replace p6 := eq_true p6
       replace q6 := eq_true q6
       go_wp2_with (first | ((with_reducible refine aZ (N := 23) rfl ?_); refine Kd.R_lit Kd.bool _ 4 ?hg (N := 23) ?hd (xs := ([] : List Bool)) (inner := []) (ok := fun _ => True) (okp := fun _ => True) ?hr ?hp (fun _ hk => hk) trivial (cE _ _) (cD _) (by simp) ?_; (case hd => rfl); (case hg => rfl); (case hr => first | (go_simp; done)); (case hp => exact (Reps.none _ _)); intro v394 w16 ho17 hb hg_ hnew_; clear hg_ hnew_; (rw [← Ny393.out] at ho17); have HO395 := aM (bP (Kd.R_new' ho17 (Kd.R_lt HO_4.out)) (aG HB.out)); replace HB := aM (aE HB.out hb); clear hb ho17))
       go_ret2
       exact ⟨_, by first | rfl | (simp [*, errW_none, errW_some] <;> rfl), by exact bJ HO395.out (fun _ hk => trivial), HB.out⟩
    ·rw [if_neg c5] at H
     exact absurd H (by simp)
   ·rw [if_neg c4] at H
    have c4b0 : decide (x5_1 < (a0.size : Int)) = false := aK c4
    clear c4
    simp only [aV, aW] at H
    obtain ⟨rfl, rfl⟩ := H
    go_wp2
    go_ret2
    exact ⟨_, by first | rfl | (simp [*, errW_none, errW_some] <;> rfl), by exact HO_4.out, HB.out⟩


mutual
def spec_l1Read.j1 : Nat → ByteArray → Int → List Bool → List Bool → Option (List Bool × List Bool × Bool)
 | 0, _, _, _, _ => none
 | k + 1, x0, x5, x404000, x404001 => if (wrap64 (x5 + 2)) ≥ (x0.size : Int) then (spec_l1Read.j2 k x0 x5 true x404000 x404001) else (if 0 ≤ (wrap64 ((x0.size : Int) - 1)) then (if (wrap64 ((x0.size : Int) - 1)) < (x0.size : Int) then (spec_l1Read.j2 k x0 x5 ((bt x0 (wrap64 ((x0.size : Int) - 1))) != 41) x404000 x404001) else (none)) else (none))
def spec_l1Read.j2 : Nat → ByteArray → Int → Bool → List Bool → List Bool → Option (List Bool × List Bool × Bool)
 | 0, _, _, _, _, _ => none
 | k + 1, x0, x5, x37, x404000, x404001 => if x37 = true then (some (x404000, x404001, false)) else (if 0 ≤ x5 then (if x5 ≤ (x0.size : Int) then ((spec_l1Signs.f k (x0.extract 0 (x5 : Int).toNat)).bind fun bt404 => (if 0 ≤ (wrap64 (x5 + 1)) then (if (wrap64 (x5 + 1)) ≤ (wrap64 ((x0.size : Int) - 1)) then (if (wrap64 ((x0.size : Int) - 1)) ≤ (x0.size : Int) then ((spec_l1Signs.f k (x0.extract ((wrap64 (x5 + 1)) : Int).toNat ((wrap64 ((x0.size : Int) - 1)) : Int).toNat)).bind fun bt408 => (if bt404.2 = true then (if bt408.2 = true then (if (bt404.1.length : Int) > 60 then (some (x404000, x404001, false)) else (if (bt408.1.length : Int) > 60 then (some (x404000, x404001, false)) else (some (bt404.1, bt408.1, true)))) else (some (x404000, x404001, false))) else (some (x404000, x404001, false)))) else (none)) else (none)) else (none))) else (none)) else (none))
def spec_l1Read.l0 : Nat → ByteArray → Int → List Bool → List Bool → Option (List Bool × List Bool × Bool)
 | 0, _, _, _, _ => none
 | k + 1, x0, x5, x404000, x404001 => if x5 < (x0.size : Int) then (if 0 ≤ x5 then (if (bt x0 x5) = 40 then (spec_l1Read.j1 k x0 x5 x404000 x404001) else (spec_l1Read.l0 k x0 (wrap64 (x5 + 1)) x404000 x404001)) else (none)) else (spec_l1Read.j1 k x0 x5 x404000 x404001)
end
def spec_l1Read.f (k : Nat) (a0 : ByteArray) : Option (List Bool × List Bool × Bool) := spec_l1Read.l0 k a0 0 (([] : List Bool)) (([false] : List Bool))
set_option maxHeartbeats 8000000 in
set_option maxRecDepth 100000 in
theorem spec_l1Read.calls (k : Nat) (a0 : ByteArray) (r1 : List Bool) (r2 : List Bool) (r3 : Bool) (w : World) (h : spec_l1Read.f k a0 = some (r1, r2, r3)) :
  Calls Try.prog 91 #[.string a0] w fun e w' => ∃ v0_ v1_ : Value, e = .returned (.tuple #[.agg #[v0_, v1_], .bool r3]) ∧ Kd.R Kd.bool 4 w' w.heap.size (fun k_ => some k_ ≠ (v1_ : Value).ownBlock) v0_ r1 ∧ Kd.R Kd.bool 4 w' w.heap.size (fun k_ => some k_ ≠ (v0_ : Value).ownBlock) v1_ r2 ∧ Below w.heap.size w w' := by
 have HB := aM (cE w.heap.size w)
 have H : (spec_l1Read.l0 k a0 0 (([] : List Bool)) (([false] : List Bool))) = some (r1, r2, r3) := h
 clear h
 obtain ⟨y397, hy397⟩ : ∃ y_ : List Bool, y_ = (([] : List Bool)) := ⟨_, rfl⟩
 replace H : (spec_l1Read.l0 k a0 0 y397 (([false] : List Bool))) = some (r1, r2, r3) := by first | (rw [hy397]; with_reducible exact H)
 have Ny397 := aM hy397
 clear hy397
 obtain ⟨y400, hy400⟩ : ∃ y_ : List Bool, y_ = (([false] : List Bool)) := ⟨_, rfl⟩
 replace H : (spec_l1Read.l0 k a0 0 y397 y400) = some (r1, r2, r3) := by first | (rw [hy400]; with_reducible exact H)
 have Ny400 := aM hy400
 clear hy400
 have HC2 := aM H
 clear H
 go_enter Try.func91, Try.ntmps91
 go_upto_block 0 with (first | ((with_reducible refine aZ (N := 2) rfl ?_); (try (refine gate_guard (by rfl) ?_; dsimp only)); refine bB ?hg (N := 2) ?hd (cs := #[.slice none 0 0, .slice none 0 0]) (t := 94) ?hr ?_; (case hd => rfl); (case hg => rfl); (case hr => first | (go_simp; done)); intro gb396 hg w3 hbox hb; have BK396 := aM hbox; have GE396 := aM ((by rw [hg]; exact (aG HB.out) : w.heap.size ≤ gb396)); replace HB := aM (aE HB.out hb); clear hb hbox hg) | ((with_reducible refine aZ (N := 10) rfl ?_); (try (refine gate_guard (by rfl) ?_; dsimp only)); refine Kd.R_lit Kd.bool _ 4 ?hg (N := 10) ?hd (xs := ([] : List Bool)) (inner := []) (ok := fun _ => True) (okp := fun _ => True) ?hr ?hp (fun _ hk => hk) trivial (cE _ _) (cD _) (by simp) ?_; (case hd => rfl); (case hg => rfl); (case hr => first | (go_simp; done)); (case hp => exact (Reps.none _ _)); intro v398 w4 ho5 hb hg_ hnew_; clear hg_ hnew_; (rw [← Ny397.out] at ho5); have HO399 := aM (bP ho5 (aG HB.out)); replace BK396 := aM (aD (g := gb396) (o := .cells #[.slice none 0 0, .slice none 0 0] 94 (0, 0)) BK396.out hb); replace HB := aM (aE HB.out hb); clear hb ho5) | ((with_reducible refine aZ (N := 11) rfl ?_); (try (refine gate_guard (by rfl) ?_; dsimp only)); refine Kd.R_lit Kd.bool _ 4 ?hg (N := 11) ?hd (xs := ([false] : List Bool)) (inner := [.bool false]) (ok := fun _ => True) (okp := fun _ => True) ?hr ?hp (fun _ hk => hk) trivial (cE _ _) (cD _) (by simp) ?_; (case hd => rfl); (case hg => rfl); (case hr => first | (go_simp; done)); (case hp => exact (Reps.one (show Kd.M Kd.bool _ _ _ false [.bool false] from rfl) (Reps.none _ _))); intro v401 w6 ho7 hb hg_ hnew_; clear hg_ hnew_; (rw [← Ny400.out] at ho7); have HO402 := aM (bP (Kd.R_new' ho7 (Kd.R_lt HO399.out)) (aG HB.out)); replace HO399 := aM (Kd.R_elder' HO399.out (Kd.R_base ho7) hb); replace BK396 := aM (aD (g := gb396) (o := .cells #[.slice none 0 0, .slice none 0 0] 94 (0, 0)) BK396.out hb); replace HB := aM (aE HB.out hb); clear hb ho7; obtain ⟨Ao8, co8, eo8⟩ := bL HO402.out; subst eo8; obtain ⟨Ao9, co9, eo9⟩ := bL HO399.out; subst eo9) | ((with_reducible refine aZ (N := 4) rfl ?_); (try (refine gate_guard (by rfl) ?_; dsimp only)); refine bB ?hg (N := 4) ?hd (cs := #[.slice none 0 0, .slice none 0 0]) (t := 94) ?hr ?_; (case hd => rfl); (case hg => rfl); (case hr => first | (go_simp; done)); intro gb403 hg w10 hbox hb; replace HO399 := aM (bG HO399.out hb); replace HO402 := aM (bG HO402.out hb); have BK403 := aM hbox; have GE403 := aM ((by rw [hg]; exact (aG HB.out) : w.heap.size ≤ gb403)); replace HB := aM (aE HB.out hb); have NB396_403 := aM ((by rw [hg]; exact Nat.ne_of_lt (blk_lt (g := gb396) (o := .cells #[.slice none 0 0, .slice none 0 0] 94 (0, 0)) BK396.out) : gb396 ≠ gb403)); replace BK396 := aM (aD (g := gb396) (o := .cells #[.slice none 0 0, .slice none 0 0] 94 (0, 0)) BK396.out hb); clear hb hbox hg; have hcz12_0 : w10.cell? ⟨gb403, 0, none⟩ = some (.slice none 0 0) := (aA BK403.out 0).trans rfl; have hcz12_1 : w10.cell? ⟨gb403, 1, none⟩ = some (.slice none 0 0) := (aA BK403.out 1).trans rfl; have hfz12_0 := aC BK403.out 0; have hfz12_1 := aC BK403.out 1))
 go_cut [5] (fun v5 wc => ∃ (kq : Nat) (x5_1 : Int), v5 = .int .i64 x5_1 ∧ Aside0 (spec_l1Read.j1 kq a0 x5_1 y397 y400 = some (r1, r2, r3)) ∧ Aside0 (kq ≤ k) ∧ Aside0 (Kd.R Kd.bool 4 wc w.heap.size (fun k_ => some k_ ≠ ((.slice Ao8 y400.length co8) : Value).ownBlock) (.slice Ao9 y397.length co9) y397) ∧ Aside0 (Kd.R Kd.bool 4 wc w.heap.size (fun k_ => some k_ ≠ ((.slice Ao9 y397.length co9) : Value).ownBlock) (.slice Ao8 y400.length co8) y400) ∧ Aside0 (wc.heap[gb396]? = some (.cells #[(.slice none 0 0), (.slice none 0 0)] 94 (0, 0))) ∧ Aside0 (wc.heap[gb403]? = some (.cells #[(.slice Ao9 y397.length co9), (.slice Ao8 y400.length co8)] 94 (0, 0))) ∧ Aside0 (Below w.heap.size w wc))
 case first =>
  have H := HC2.out
  clear HC2
  have H' := aM H
  clear H
  go_wp2
  go_loopg [5] k (fun kq v5 w' => ∃ (x5_1 : Int), v5 = .int .i64 x5_1 ∧ Aside0 (spec_l1Read.l0 kq a0 x5_1 y397 y400 = some (r1, r2, r3)) ∧ Aside0 (kq ≤ k) ∧ Aside0 (Kd.R Kd.bool 4 w' w.heap.size (fun k_ => some k_ ≠ ((.slice Ao8 y400.length co8) : Value).ownBlock) (.slice Ao9 y397.length co9) y397) ∧ Aside0 (Kd.R Kd.bool 4 w' w.heap.size (fun k_ => some k_ ≠ ((.slice Ao9 y397.length co9) : Value).ownBlock) (.slice Ao8 y400.length co8) y400) ∧ Aside0 (w'.heap[gb396]? = some (.cells #[(.slice none 0 0), (.slice none 0 0)] 94 (0, 0))) ∧ Aside0 (w'.heap[gb403]? = some (.cells #[(.slice Ao9 y397.length co9), (.slice Ao8 y400.length co8)] 94 (0, 0))) ∧ Aside0 (Below w.heap.size w w'))
  case atStart => exact ⟨(0), (by rfl), H', ⟨cD _⟩, ⟨by exact bJ (bC (p := ⟨gb403, 1, none⟩) (bC (p := ⟨gb403, 0, none⟩) (bE HO399.out BK403.out (by decide)) (fun _ hk => hk.2) (.slice Ao9 y397.length co9)) (fun _ hk => hk.2) (.slice Ao8 y400.length co8)) (fun _ hk => hk.1.2)⟩, ⟨by exact bJ (bC (p := ⟨gb403, 1, none⟩) (bC (p := ⟨gb403, 0, none⟩) (bE HO402.out BK403.out (by decide)) (fun _ hk => hk.2) (.slice Ao9 y397.length co9)) (fun _ hk => hk.2) (.slice Ao8 y400.length co8)) (fun _ hk => hk.1.2)⟩, ⟨by refine cL ?_ NB396_403.out _; refine cL ?_ NB396_403.out _; exact BK396.out⟩, ⟨by refine bV (cs := #[.slice Ao9 y397.length co9, .slice none 0 0]) ?_ 1 _ rfl; refine bV (cs := #[.slice none 0 0, .slice none 0 0]) ?_ 0 _ rfl; exact BK403.out⟩, ⟨by repeat (first | (with_reducible first | exact HB.out | refine bS ?_ GE403.out))⟩⟩
  case round =>
   clear H'
   try clear hcz12_0
   try clear hcz12_1
   try clear hfz12_0
   try clear hfz12_1
   obtain ⟨x5_1, rfl, HA, HK1, HO_404000, HO_404001, BK396, BK403, HB⟩ := hrel
   cases gk with
   | zero => exact absurd HA.out (by simp [spec_l1Read.l0])
   | succ k1 =>
    have H := HA.out
    clear HA
    simp only [spec_l1Read.l0] at H
    by_cases c13 : x5_1 < (a0.size : Int)
    ·rw [if_pos c13] at H
     have c13b0 : decide (x5_1 < (a0.size : Int)) = true := aH c13
     clear c13
     by_cases c14 : 0 ≤ x5_1
     ·rw [if_pos c14] at H
      have c14b0 : decide (0 ≤ x5_1) = true := aH c14
      clear c14
      by_cases c16 : (bt a0 x5_1) = 40
      ·rw [if_pos c16] at H
       have c16b1 : ((bt a0 x5_1) != 40) = false := bne_eq_false_iff_eq.mpr c16
       clear c16
       have H' := aM H
       clear H
       have p15 : 0 ≤ (x5_1 : Int) := aJ (by (with_reducible assumption))
       have q15 : x5_1 < (a0.size : Int) := aJ (by (with_reducible assumption))
       have hx15 := bt_at a0 x5_1
       replace p15 := eq_true p15
       replace q15 := eq_true q15
       go_wp2
       go_meet
       case rel => exact ⟨_, (x5_1), (by rfl), H', ⟨by have := HK1.out; omega⟩, ⟨by exact HO_404000.out⟩, ⟨by exact HO_404001.out⟩, ⟨by exact BK396.out⟩, ⟨by exact BK403.out⟩, ⟨HB.out⟩⟩
      ·rw [if_neg c16] at H
       have c16b1 : ((bt a0 x5_1) != 40) = true := bne_iff_ne.mpr c16
       have H' := aM H
       clear H
       have p15 : 0 ≤ (x5_1 : Int) := aJ (by (with_reducible assumption))
       have q15 : x5_1 < (a0.size : Int) := aJ (by (with_reducible assumption))
       have hx15 := bt_at a0 x5_1
       replace p15 := eq_true p15
       replace q15 := eq_true q15
       go_wp2
       go_roundg k1
       case measure => have := HK1.out; omega
       case rel => exact ⟨(wrap64 (x5_1 + 1)), (by rfl), H', ⟨by have := HK1.out; omega⟩, ⟨by exact HO_404000.out⟩, ⟨by exact HO_404001.out⟩, ⟨by exact BK396.out⟩, ⟨by exact BK403.out⟩, ⟨HB.out⟩⟩
     ·rw [if_neg c14] at H
      exact absurd H (by simp)
    ·rw [if_neg c13] at H
     have c13b0 : decide (x5_1 < (a0.size : Int)) = false := aK c13
     clear c13
     have H' := aM H
     clear H
     go_wp2
     go_meet
     case rel => exact ⟨_, (x5_1), (by rfl), H', ⟨by have := HK1.out; omega⟩, ⟨by exact HO_404000.out⟩, ⟨by exact HO_404001.out⟩, ⟨by exact BK396.out⟩, ⟨by exact BK403.out⟩, ⟨HB.out⟩⟩
 case rest =>
  clear HC2
  try clear hcz12_0
  try clear hcz12_1
  try clear hfz12_0
  try clear hfz12_1
  obtain ⟨kq, x5_1, rfl, HA, HJ1, HO_404000, HO_404001, BK396, BK403, HB⟩ := hcut
  cases kq with
  | zero => exact absurd HA.out (by simp [spec_l1Read.j1])
  | succ kj1 =>
   have H := HA.out
   clear HA
   simp only [spec_l1Read.j1] at H
   have HC17 := aM H
   clear H
   go_upto_region 5 with (fail)
   go_cut [37] (fun v37 wc => ∃ (kq : Nat) (x37_16 : Bool), v37 = .bool x37_16 ∧ Aside0 (spec_l1Read.j2 kq a0 x5_1 x37_16 y397 y400 = some (r1, r2, r3)) ∧ Aside0 (kq ≤ kj1) ∧ Aside0 (Kd.R Kd.bool 4 wc w.heap.size (fun k_ => some k_ ≠ ((.slice Ao8 y400.length co8) : Value).ownBlock) (.slice Ao9 y397.length co9) y397) ∧ Aside0 (Kd.R Kd.bool 4 wc w.heap.size (fun k_ => some k_ ≠ ((.slice Ao9 y397.length co9) : Value).ownBlock) (.slice Ao8 y400.length co8) y400) ∧ Aside0 (wc.heap[gb396]? = some (.cells #[(.slice none 0 0), (.slice none 0 0)] 94 (0, 0))) ∧ Aside0 (wc.heap[gb403]? = some (.cells #[(.slice Ao9 y397.length co9), (.slice Ao8 y400.length co8)] 94 (0, 0))) ∧ Aside0 (Below w.heap.size w wc))
   case first =>
    have H := HC17.out
    clear HC17
    by_cases c18 : (wrap64 (x5_1 + 2)) ≥ (a0.size : Int)
    ·rw [if_pos c18] at H
     have c18b0 : decide ((a0.size : Int) ≤ (wrap64 (x5_1 + 2))) = true := aH c18
     clear c18
     have H' := aM H
     clear H
     go_wp2
     go_meet
     case rel => exact ⟨_, (true), (by rfl), H', ⟨by have := HJ1.out; omega⟩, ⟨by exact HO_404000.out⟩, ⟨by exact HO_404001.out⟩, ⟨by exact BK396.out⟩, ⟨by exact BK403.out⟩, ⟨HB.out⟩⟩
    ·rw [if_neg c18] at H
     have c18b0 : decide ((a0.size : Int) ≤ (wrap64 (x5_1 + 2))) = false := aK c18
     clear c18
     obtain ⟨ji19, hji19⟩ : ∃ j_ : Int, (wrap64 ((a0.size : Int) - 1)) = j_ := ⟨_, rfl⟩
     replace H : (if 0 ≤ (ji19) then (if (ji19) < (a0.size : Int) then (spec_l1Read.j2 kj1 a0 x5_1 ((bt a0 (ji19)) != 41) y397 y400) else (none)) else (none)) = some (r1, r2, r3) := by first | (rw [hji19] at H; exact H)
     have hji19w : (IntKind.i64.wrap ((a0.size : Int) - 1)) = ji19 := (cS _).trans hji19
     by_cases c20 : 0 ≤ (ji19)
     ·rw [if_pos c20] at H
      have c20b0 : decide (0 ≤ (ji19)) = true := aH c20
      clear c20
      by_cases c21 : (ji19) < (a0.size : Int)
      ·rw [if_pos c21] at H
       have c21b0 : decide ((ji19) < (a0.size : Int)) = true := aH c21
       clear c21
       have H' := aM H
       clear H
       have p22 : 0 ≤ ((ji19) : Int) := aJ (by (with_reducible assumption))
       have q22 : (ji19) < (a0.size : Int) := aJ (by (with_reducible assumption))
       have hx22 := bt_at a0 (ji19)
       replace p22 := eq_true p22
       replace q22 := eq_true q22
       go_wp2
       go_meet
       case rel => exact ⟨_, (((bt a0 (ji19)) != 41)), (by rfl), H', ⟨by have := HJ1.out; omega⟩, ⟨by exact HO_404000.out⟩, ⟨by exact HO_404001.out⟩, ⟨by exact BK396.out⟩, ⟨by exact BK403.out⟩, ⟨HB.out⟩⟩
      ·rw [if_neg c21] at H
       exact absurd H (by simp)
     ·rw [if_neg c20] at H
      exact absurd H (by simp)
   case rest =>
    clear HC17
    obtain ⟨kq, x37_16, rfl, HA, HJ16, HO_404000, HO_404001, BK396, BK403, HB⟩ := hcut
    cases kq with
    | zero => exact absurd HA.out (by simp [spec_l1Read.j2])
    | succ kj16 =>
     have H := HA.out
     clear HA
     simp only [spec_l1Read.j2] at H
     by_cases c23 : x37_16 = true
     ·subst c23
      replace H : (some (y397, y400, false)) = some (r1, r2, r3) := by rw [if_pos rfl] at H; exact H
      simp only [aV, aW] at H
      obtain ⟨rfl, rfl, rfl⟩ := H
      have hcz25_0 : wc.cell? ⟨gb403, 0, none⟩ = some (.slice Ao9 y397.length co9) := (aA BK403.out 0).trans rfl
      have hcz25_1 : wc.cell? ⟨gb403, 1, none⟩ = some (.slice Ao8 y400.length co8) := (aA BK403.out 1).trans rfl
      have hcz26_0 : wc.cell? ⟨gb396, 0, none⟩ = some (.slice none 0 0) := (aA BK396.out 0).trans rfl
      have hcz26_1 : wc.cell? ⟨gb396, 1, none⟩ = some (.slice none 0 0) := (aA BK396.out 1).trans rfl
      have hfz26_0 := aC BK396.out 0
      have hfz26_1 := aC BK396.out 1
      go_wp2
      refine cF (cG rfl _ _ gb396 94 #[.slice Ao9 y397.length co9, .slice Ao8 y400.length co8] (0, 0) _ rfl (by refine bV (cs := #[.slice Ao9 y397.length co9, .slice none 0 0]) ?_ 1 _ rfl; refine bV (cs := #[.slice none 0 0, .slice none 0 0]) ?_ 0 _ rfl; exact BK396.out) Try.underlying94 rfl (by kernel_rfl)) rfl ?_
      exact ⟨_, _, by first | rfl | (simp [*, errW_none, errW_some] <;> rfl), by exact bJ (bC (p := ⟨gb396, 1, none⟩) (bC (p := ⟨gb396, 0, none⟩) (bE HO_404000.out BK396.out (by decide)) (fun _ hk => hk.2) (.slice Ao9 y397.length co9)) (fun _ hk => hk.2) (.slice Ao8 y400.length co8)) (fun _ hk => hk.1), by exact bJ (bC (p := ⟨gb396, 1, none⟩) (bC (p := ⟨gb396, 0, none⟩) (bE HO_404001.out BK396.out (by decide)) (fun _ hk => hk.2) (.slice Ao9 y397.length co9)) (fun _ hk => hk.2) (.slice Ao8 y400.length co8)) (fun _ hk => hk.1), by repeat (first | (with_reducible first | exact HB.out | refine bS ?_ GE396.out))⟩
     ·replace c23 := Bool.eq_false_iff.mpr c23
      subst c23
      replace H : (if 0 ≤ x5_1 then (if x5_1 ≤ (a0.size : Int) then ((spec_l1Signs.f kj16 (a0.extract 0 (x5_1 : Int).toNat)).bind fun bt404 => (if 0 ≤ (wrap64 (x5_1 + 1)) then (if (wrap64 (x5_1 + 1)) ≤ (wrap64 ((a0.size : Int) - 1)) then (if (wrap64 ((a0.size : Int) - 1)) ≤ (a0.size : Int) then ((spec_l1Signs.f kj16 (a0.extract ((wrap64 (x5_1 + 1)) : Int).toNat ((wrap64 ((a0.size : Int) - 1)) : Int).toNat)).bind fun bt408 => (if bt404.2 = true then (if bt408.2 = true then (if (bt404.1.length : Int) > 60 then (some (y397, y400, false)) else (if (bt408.1.length : Int) > 60 then (some (y397, y400, false)) else (some (bt404.1, bt408.1, true)))) else (some (y397, y400, false))) else (some (y397, y400, false)))) else (none)) else (none)) else (none))) else (none)) else (none)) = some (r1, r2, r3) := by rw [if_neg (show ¬ (false = true) by decide)] at H; exact H
      by_cases c27 : 0 ≤ x5_1
      ·rw [if_pos c27] at H
       have c27b0 := eq_true c27
       have c27b1 : decide (0 ≤ x5_1) = true := aH c27
       clear c27
       by_cases c28 : x5_1 ≤ (a0.size : Int)
       ·rw [if_pos c28] at H
        have c28b0 := eq_true c28
        clear c28
        replace H := Option.bind_eq_some_iff.mp H
        obtain ⟨⟨t404, t405⟩, A290, H⟩ := H
        replace H : (if 0 ≤ (wrap64 (x5_1 + 1)) then (if (wrap64 (x5_1 + 1)) ≤ (wrap64 ((a0.size : Int) - 1)) then (if (wrap64 ((a0.size : Int) - 1)) ≤ (a0.size : Int) then ((spec_l1Signs.f kj16 (a0.extract ((wrap64 (x5_1 + 1)) : Int).toNat ((wrap64 ((a0.size : Int) - 1)) : Int).toNat)).bind fun bt408 => (if t405 = true then (if bt408.2 = true then (if (t404.length : Int) > 60 then (some (y397, y400, false)) else (if (bt408.1.length : Int) > 60 then (some (y397, y400, false)) else (some (t404, bt408.1, true)))) else (some (y397, y400, false))) else (some (y397, y400, false)))) else (none)) else (none)) else (none)) = some (r1, r2, r3) := H
        have A29 := aM A290
        clear A290
        obtain ⟨ji30, hji30⟩ : ∃ j_ : Int, (wrap64 (x5_1 + 1)) = j_ := ⟨_, rfl⟩
        replace H : (if 0 ≤ (ji30) then (if (ji30) ≤ (wrap64 ((a0.size : Int) - 1)) then (if (wrap64 ((a0.size : Int) - 1)) ≤ (a0.size : Int) then ((spec_l1Signs.f kj16 (a0.extract ((ji30) : Int).toNat ((wrap64 ((a0.size : Int) - 1)) : Int).toNat)).bind fun bt408 => (if t405 = true then (if bt408.2 = true then (if (t404.length : Int) > 60 then (some (y397, y400, false)) else (if (bt408.1.length : Int) > 60 then (some (y397, y400, false)) else (some (t404, bt408.1, true)))) else (some (y397, y400, false))) else (some (y397, y400, false)))) else (none)) else (none)) else (none)) = some (r1, r2, r3) := by first | (rw [hji30] at H; exact H)
        have hji30w : (IntKind.i64.wrap (x5_1 + 1)) = ji30 := (cS _).trans hji30
        by_cases c31 : 0 ≤ (ji30)
        ·rw [if_pos c31] at H
         have c31b0 := eq_true c31
         have c31b1 : decide (0 ≤ (ji30)) = true := aH c31
         clear c31
         by_cases c32 : (ji30) ≤ (wrap64 ((a0.size : Int) - 1))
         ·rw [if_pos c32] at H
          have c32b0 := eq_true c32
          have c32b1 : decide ((ji30) ≤ (wrap64 ((a0.size : Int) - 1))) = true := aH c32
          clear c32
          by_cases c33 : (wrap64 ((a0.size : Int) - 1)) ≤ (a0.size : Int)
          ·rw [if_pos c33] at H
           have c33b0 := eq_true c33
           clear c33
           replace H := Option.bind_eq_some_iff.mp H
           obtain ⟨⟨t408, t409⟩, A340, H⟩ := H
           replace H : (if t405 = true then (if t409 = true then (if (t404.length : Int) > 60 then (some (y397, y400, false)) else (if (t408.length : Int) > 60 then (some (y397, y400, false)) else (some (t404, t408, true)))) else (some (y397, y400, false))) else (some (y397, y400, false))) = some (r1, r2, r3) := H
           have A34 := aM A340
           clear A340
           by_cases c35 : t405 = true
           ·subst c35
            replace H : (if t409 = true then (if (t404.length : Int) > 60 then (some (y397, y400, false)) else (if (t408.length : Int) > 60 then (some (y397, y400, false)) else (some (t404, t408, true)))) else (some (y397, y400, false))) = some (r1, r2, r3) := by rw [if_pos rfl] at H; exact H
            by_cases c36 : t409 = true
            ·subst c36
             replace H : (if (t404.length : Int) > 60 then (some (y397, y400, false)) else (if (t408.length : Int) > 60 then (some (y397, y400, false)) else (some (t404, t408, true)))) = some (r1, r2, r3) := by rw [if_pos rfl] at H; exact H
             by_cases c37 : (t404.length : Int) > 60
             ·rw [if_pos c37] at H
              have c37b0 : decide (60 < (t404.length : Int)) = true := aH c37
              clear c37
              simp only [aV, aW] at H
              obtain ⟨rfl, rfl, rfl⟩ := H
              go_wp2_with (first | ((with_reducible refine aY (f := 104) rfl ?_); refine gL 43 Try.func104 #[.string (a0.extract 0 (x5_1 : Int).toNat)] ?_; (with_reducible refine (spec_l1Signs.calls kj16 (a0.extract 0 (x5_1 : Int).toNat) t404 true _ A29.out).mono ?_); rintro e w38 ⟨v406, rfl, ho0, hb⟩; refine ⟨_, rfl, ?_⟩; have HO407 := aM (bP (Kd.R_new' (Kd.R_new' ho0 (Kd.R_lt HO_404000.out)) (Kd.R_lt HO_404001.out)) (aG HB.out)); replace HO_404000 := aM (Kd.R_elder' HO_404000.out (Kd.R_base ho0) hb); replace HO_404001 := aM (Kd.R_elder' HO_404001.out (Kd.R_base ho0) hb); replace BK396 := aM (aD (g := gb396) (o := .cells #[.slice none 0 0, .slice none 0 0] 94 (0, 0)) BK396.out hb); replace BK403 := aM (aD (g := gb403) (o := .cells #[.slice Ao9 y397.length co9, .slice Ao8 y400.length co8] 94 (0, 0)) BK403.out hb); replace HB := aM (aE HB.out hb); (try clear hb); (try clear ho0)) | ((with_reducible refine aY (f := 104) rfl ?_); refine gL 54 Try.func104 #[.string (a0.extract ((ji30) : Int).toNat ((wrap64 ((a0.size : Int) - 1)) : Int).toNat)] ?_; (with_reducible refine (spec_l1Signs.calls kj16 (a0.extract ((ji30) : Int).toNat ((wrap64 ((a0.size : Int) - 1)) : Int).toNat) t408 true _ A34.out).mono ?_); rintro e w39 ⟨v410, rfl, ho0, hb⟩; refine ⟨_, rfl, ?_⟩; have HO411 := aM (bP (Kd.R_new' (Kd.R_new' (Kd.R_new' ho0 (Kd.R_lt HO_404000.out)) (Kd.R_lt HO_404001.out)) (Kd.R_lt HO407.out)) (aG HB.out)); replace HO_404000 := aM (Kd.R_elder' HO_404000.out (Kd.R_base ho0) hb); replace HO_404001 := aM (Kd.R_elder' HO_404001.out (Kd.R_base ho0) hb); replace HO407 := aM (Kd.R_elder' HO407.out (Kd.R_base ho0) hb); replace BK396 := aM (aD (g := gb396) (o := .cells #[.slice none 0 0, .slice none 0 0] 94 (0, 0)) BK396.out hb); replace BK403 := aM (aD (g := gb403) (o := .cells #[.slice Ao9 y397.length co9, .slice Ao8 y400.length co8] 94 (0, 0)) BK403.out hb); replace HB := aM (aE HB.out hb); (try clear hb); (try clear ho0); obtain ⟨Ao40, co40, eo40⟩ := bL HO407.out; subst eo40; have hcz42_0 : w39.cell? ⟨gb403, 0, none⟩ = some (.slice Ao9 y397.length co9) := (aA BK403.out 0).trans rfl; have hcz42_1 : w39.cell? ⟨gb403, 1, none⟩ = some (.slice Ao8 y400.length co8) := (aA BK403.out 1).trans rfl; have hcz43_0 : w39.cell? ⟨gb396, 0, none⟩ = some (.slice none 0 0) := (aA BK396.out 0).trans rfl; have hcz43_1 : w39.cell? ⟨gb396, 1, none⟩ = some (.slice none 0 0) := (aA BK396.out 1).trans rfl; have hfz43_0 := aC BK396.out 0; have hfz43_1 := aC BK396.out 1))
              refine cF (cG rfl _ _ gb396 94 #[.slice Ao9 y397.length co9, .slice Ao8 y400.length co8] (0, 0) _ rfl (by refine bV (cs := #[.slice Ao9 y397.length co9, .slice none 0 0]) ?_ 1 _ rfl; refine bV (cs := #[.slice none 0 0, .slice none 0 0]) ?_ 0 _ rfl; exact BK396.out) Try.underlying94 rfl (by kernel_rfl)) rfl ?_
              exact ⟨_, _, by first | rfl | (simp [*, errW_none, errW_some] <;> rfl), by exact bJ (bC (p := ⟨gb396, 1, none⟩) (bC (p := ⟨gb396, 0, none⟩) (bE HO_404000.out BK396.out (by decide)) (fun _ hk => hk.2) (.slice Ao9 y397.length co9)) (fun _ hk => hk.2) (.slice Ao8 y400.length co8)) (fun _ hk => hk.1.1.1), by exact bJ (bC (p := ⟨gb396, 1, none⟩) (bC (p := ⟨gb396, 0, none⟩) (bE HO_404001.out BK396.out (by decide)) (fun _ hk => hk.2) (.slice Ao9 y397.length co9)) (fun _ hk => hk.2) (.slice Ao8 y400.length co8)) (fun _ hk => hk.1.1.1), by repeat (first | (with_reducible first | exact HB.out | refine bS ?_ GE396.out))⟩
             ·rw [if_neg c37] at H
              have c37b0 : decide (60 < (t404.length : Int)) = false := aK c37
              have c37b1 : decide (60 < t404.length) = false := aK (by omega)
              clear c37
              by_cases c44 : (t408.length : Int) > 60
              ·rw [if_pos c44] at H
               have c44b0 : decide (60 < (t408.length : Int)) = true := aH c44
               clear c44
               simp only [aV, aW] at H
               obtain ⟨rfl, rfl, rfl⟩ := H
               go_wp2_with (first | ((with_reducible refine aY (f := 104) rfl ?_); refine gL 43 Try.func104 #[.string (a0.extract 0 (x5_1 : Int).toNat)] ?_; (with_reducible refine (spec_l1Signs.calls kj16 (a0.extract 0 (x5_1 : Int).toNat) t404 true _ A29.out).mono ?_); rintro e w45 ⟨v406, rfl, ho0, hb⟩; refine ⟨_, rfl, ?_⟩; have HO407 := aM (bP (Kd.R_new' (Kd.R_new' ho0 (Kd.R_lt HO_404000.out)) (Kd.R_lt HO_404001.out)) (aG HB.out)); replace HO_404000 := aM (Kd.R_elder' HO_404000.out (Kd.R_base ho0) hb); replace HO_404001 := aM (Kd.R_elder' HO_404001.out (Kd.R_base ho0) hb); replace BK396 := aM (aD (g := gb396) (o := .cells #[.slice none 0 0, .slice none 0 0] 94 (0, 0)) BK396.out hb); replace BK403 := aM (aD (g := gb403) (o := .cells #[.slice Ao9 y397.length co9, .slice Ao8 y400.length co8] 94 (0, 0)) BK403.out hb); replace HB := aM (aE HB.out hb); (try clear hb); (try clear ho0)) | ((with_reducible refine aY (f := 104) rfl ?_); refine gL 54 Try.func104 #[.string (a0.extract ((ji30) : Int).toNat ((wrap64 ((a0.size : Int) - 1)) : Int).toNat)] ?_; (with_reducible refine (spec_l1Signs.calls kj16 (a0.extract ((ji30) : Int).toNat ((wrap64 ((a0.size : Int) - 1)) : Int).toNat) t408 true _ A34.out).mono ?_); rintro e w46 ⟨v410, rfl, ho0, hb⟩; refine ⟨_, rfl, ?_⟩; have HO411 := aM (bP (Kd.R_new' (Kd.R_new' (Kd.R_new' ho0 (Kd.R_lt HO_404000.out)) (Kd.R_lt HO_404001.out)) (Kd.R_lt HO407.out)) (aG HB.out)); replace HO_404000 := aM (Kd.R_elder' HO_404000.out (Kd.R_base ho0) hb); replace HO_404001 := aM (Kd.R_elder' HO_404001.out (Kd.R_base ho0) hb); replace HO407 := aM (Kd.R_elder' HO407.out (Kd.R_base ho0) hb); replace BK396 := aM (aD (g := gb396) (o := .cells #[.slice none 0 0, .slice none 0 0] 94 (0, 0)) BK396.out hb); replace BK403 := aM (aD (g := gb403) (o := .cells #[.slice Ao9 y397.length co9, .slice Ao8 y400.length co8] 94 (0, 0)) BK403.out hb); replace HB := aM (aE HB.out hb); (try clear hb); (try clear ho0); obtain ⟨Ao47, co47, eo47⟩ := bL HO407.out; subst eo47; obtain ⟨Ao48, co48, eo48⟩ := bL HO411.out; subst eo48; have hcz50_0 : w46.cell? ⟨gb403, 0, none⟩ = some (.slice Ao9 y397.length co9) := (aA BK403.out 0).trans rfl; have hcz50_1 : w46.cell? ⟨gb403, 1, none⟩ = some (.slice Ao8 y400.length co8) := (aA BK403.out 1).trans rfl; have hcz51_0 : w46.cell? ⟨gb396, 0, none⟩ = some (.slice none 0 0) := (aA BK396.out 0).trans rfl; have hcz51_1 : w46.cell? ⟨gb396, 1, none⟩ = some (.slice none 0 0) := (aA BK396.out 1).trans rfl; have hfz51_0 := aC BK396.out 0; have hfz51_1 := aC BK396.out 1))
               refine cF (cG rfl _ _ gb396 94 #[.slice Ao9 y397.length co9, .slice Ao8 y400.length co8] (0, 0) _ rfl (by refine bV (cs := #[.slice Ao9 y397.length co9, .slice none 0 0]) ?_ 1 _ rfl; refine bV (cs := #[.slice none 0 0, .slice none 0 0]) ?_ 0 _ rfl; exact BK396.out) Try.underlying94 rfl (by kernel_rfl)) rfl ?_
               exact ⟨_, _, by first | rfl | (simp [*, errW_none, errW_some] <;> rfl), by exact bJ (bC (p := ⟨gb396, 1, none⟩) (bC (p := ⟨gb396, 0, none⟩) (bE HO_404000.out BK396.out (by decide)) (fun _ hk => hk.2) (.slice Ao9 y397.length co9)) (fun _ hk => hk.2) (.slice Ao8 y400.length co8)) (fun _ hk => hk.1.1.1), by exact bJ (bC (p := ⟨gb396, 1, none⟩) (bC (p := ⟨gb396, 0, none⟩) (bE HO_404001.out BK396.out (by decide)) (fun _ hk => hk.2) (.slice Ao9 y397.length co9)) (fun _ hk => hk.2) (.slice Ao8 y400.length co8)) (fun _ hk => hk.1.1.1), by repeat (first | (with_reducible first | exact HB.out | refine bS ?_ GE396.out))⟩
              ·rw [if_neg c44] at H
               have c44b0 : decide (60 < (t408.length : Int)) = false := aK c44
               clear c44
               simp only [aV, aW] at H
               obtain ⟨rfl, rfl, rfl⟩ := H
               go_wp2_with (first | ((with_reducible refine aY (f := 104) rfl ?_); refine gL 43 Try.func104 #[.string (a0.extract 0 (x5_1 : Int).toNat)] ?_; (with_reducible refine (spec_l1Signs.calls kj16 (a0.extract 0 (x5_1 : Int).toNat) t404 true _ A29.out).mono ?_); rintro e w52 ⟨v406, rfl, ho0, hb⟩; refine ⟨_, rfl, ?_⟩; have HO407 := aM (bP (Kd.R_new' (Kd.R_new' ho0 (Kd.R_lt HO_404000.out)) (Kd.R_lt HO_404001.out)) (aG HB.out)); replace HO_404000 := aM (Kd.R_elder' HO_404000.out (Kd.R_base ho0) hb); replace HO_404001 := aM (Kd.R_elder' HO_404001.out (Kd.R_base ho0) hb); replace BK396 := aM (aD (g := gb396) (o := .cells #[.slice none 0 0, .slice none 0 0] 94 (0, 0)) BK396.out hb); replace HB := aM (aE HB.out hb); (try clear hb); (try clear ho0)) | ((with_reducible refine aY (f := 104) rfl ?_); refine gL 54 Try.func104 #[.string (a0.extract ((ji30) : Int).toNat ((wrap64 ((a0.size : Int) - 1)) : Int).toNat)] ?_; (with_reducible refine (spec_l1Signs.calls kj16 (a0.extract ((ji30) : Int).toNat ((wrap64 ((a0.size : Int) - 1)) : Int).toNat) t408 true _ A34.out).mono ?_); rintro e w53 ⟨v410, rfl, ho0, hb⟩; refine ⟨_, rfl, ?_⟩; have HO411 := aM (bP (Kd.R_new' (Kd.R_new' (Kd.R_new' ho0 (Kd.R_lt HO_404000.out)) (Kd.R_lt HO_404001.out)) (Kd.R_lt HO407.out)) (aG HB.out)); replace HO_404000 := aM (Kd.R_elder' HO_404000.out (Kd.R_base ho0) hb); replace HO_404001 := aM (Kd.R_elder' HO_404001.out (Kd.R_base ho0) hb); replace HO407 := aM (Kd.R_elder' HO407.out (Kd.R_base ho0) hb); replace BK396 := aM (aD (g := gb396) (o := .cells #[.slice none 0 0, .slice none 0 0] 94 (0, 0)) BK396.out hb); replace HB := aM (aE HB.out hb); (try clear hb); (try clear ho0); obtain ⟨Ao54, co54, eo54⟩ := bL HO407.out; subst eo54; obtain ⟨Ao55, co55, eo55⟩ := bL HO411.out; subst eo55; have hcz57_0 : w53.cell? ⟨gb396, 0, none⟩ = some (.slice none 0 0) := (aA BK396.out 0).trans rfl; have hcz57_1 : w53.cell? ⟨gb396, 1, none⟩ = some (.slice none 0 0) := (aA BK396.out 1).trans rfl; have hfz57_0 := aC BK396.out 0; have hfz57_1 := aC BK396.out 1))
               refine cF (cG rfl _ _ gb396 94 #[.slice Ao54 t404.length co54, .slice Ao55 t408.length co55] (0, 0) _ rfl (by refine bV (cs := #[.slice Ao54 t404.length co54, .slice none 0 0]) ?_ 1 _ rfl; refine bV (cs := #[.slice none 0 0, .slice none 0 0]) ?_ 0 _ rfl; exact BK396.out) Try.underlying94 rfl (by kernel_rfl)) rfl ?_
               exact ⟨_, _, by first | rfl | (simp [*, errW_none, errW_some] <;> rfl), by exact bJ (bC (p := ⟨gb396, 1, none⟩) (bC (p := ⟨gb396, 0, none⟩) (bE HO407.out BK396.out (by decide)) (fun _ hk => hk.2) (.slice Ao54 t404.length co54)) (fun _ hk => hk.2) (.slice Ao55 t408.length co55)) (fun _ hk => hk.1.2), by exact bJ (bC (p := ⟨gb396, 1, none⟩) (bC (p := ⟨gb396, 0, none⟩) (bE HO411.out BK396.out (by decide)) (fun _ hk => hk.2) (.slice Ao54 t404.length co54)) (fun _ hk => hk.2) (.slice Ao55 t408.length co55)) (fun _ hk => hk.1.2), by repeat (first | (with_reducible first | exact HB.out | refine bS ?_ GE396.out))⟩
            ·replace c36 := Bool.eq_false_iff.mpr c36
             subst c36
             replace H : (some (y397, y400, false)) = some (r1, r2, r3) := by rw [if_neg (show ¬ (false = true) by decide)] at H; exact H
             simp only [aV, aW] at H
             obtain ⟨rfl, rfl, rfl⟩ := H
             go_wp2_with (first | ((with_reducible refine aY (f := 104) rfl ?_); refine gL 43 Try.func104 #[.string (a0.extract 0 (x5_1 : Int).toNat)] ?_; (with_reducible refine (spec_l1Signs.calls kj16 (a0.extract 0 (x5_1 : Int).toNat) t404 true _ A29.out).mono ?_); rintro e w58 ⟨v406, rfl, ho0, hb⟩; refine ⟨_, rfl, ?_⟩; replace HO_404000 := aM (Kd.R_elder' HO_404000.out (Kd.R_base ho0) hb); replace HO_404001 := aM (Kd.R_elder' HO_404001.out (Kd.R_base ho0) hb); replace BK396 := aM (aD (g := gb396) (o := .cells #[.slice none 0 0, .slice none 0 0] 94 (0, 0)) BK396.out hb); replace BK403 := aM (aD (g := gb403) (o := .cells #[.slice Ao9 y397.length co9, .slice Ao8 y400.length co8] 94 (0, 0)) BK403.out hb); replace HB := aM (aE HB.out hb); (try clear hb); (try clear ho0)) | ((with_reducible refine aY (f := 104) rfl ?_); refine gL 54 Try.func104 #[.string (a0.extract ((ji30) : Int).toNat ((wrap64 ((a0.size : Int) - 1)) : Int).toNat)] ?_; (with_reducible refine (spec_l1Signs.calls kj16 (a0.extract ((ji30) : Int).toNat ((wrap64 ((a0.size : Int) - 1)) : Int).toNat) t408 false _ A34.out).mono ?_); rintro e w59 ⟨v410, rfl, ho0, hb⟩; refine ⟨_, rfl, ?_⟩; replace HO_404000 := aM (Kd.R_elder' HO_404000.out (Kd.R_base ho0) hb); replace HO_404001 := aM (Kd.R_elder' HO_404001.out (Kd.R_base ho0) hb); replace BK396 := aM (aD (g := gb396) (o := .cells #[.slice none 0 0, .slice none 0 0] 94 (0, 0)) BK396.out hb); replace BK403 := aM (aD (g := gb403) (o := .cells #[.slice Ao9 y397.length co9, .slice Ao8 y400.length co8] 94 (0, 0)) BK403.out hb); replace HB := aM (aE HB.out hb); (try clear hb); (try clear ho0); have hcz61_0 : w59.cell? ⟨gb403, 0, none⟩ = some (.slice Ao9 y397.length co9) := (aA BK403.out 0).trans rfl; have hcz61_1 : w59.cell? ⟨gb403, 1, none⟩ = some (.slice Ao8 y400.length co8) := (aA BK403.out 1).trans rfl; have hcz62_0 : w59.cell? ⟨gb396, 0, none⟩ = some (.slice none 0 0) := (aA BK396.out 0).trans rfl; have hcz62_1 : w59.cell? ⟨gb396, 1, none⟩ = some (.slice none 0 0) := (aA BK396.out 1).trans rfl; have hfz62_0 := aC BK396.out 0; have hfz62_1 := aC BK396.out 1))
             refine cF (cG rfl _ _ gb396 94 #[.slice Ao9 y397.length co9, .slice Ao8 y400.length co8] (0, 0) _ rfl (by refine bV (cs := #[.slice Ao9 y397.length co9, .slice none 0 0]) ?_ 1 _ rfl; refine bV (cs := #[.slice none 0 0, .slice none 0 0]) ?_ 0 _ rfl; exact BK396.out) Try.underlying94 rfl (by kernel_rfl)) rfl ?_
             exact ⟨_, _, by first | rfl | (simp [*, errW_none, errW_some] <;> rfl), by exact bJ (bC (p := ⟨gb396, 1, none⟩) (bC (p := ⟨gb396, 0, none⟩) (bE HO_404000.out BK396.out (by decide)) (fun _ hk => hk.2) (.slice Ao9 y397.length co9)) (fun _ hk => hk.2) (.slice Ao8 y400.length co8)) (fun _ hk => hk.1.1.1), by exact bJ (bC (p := ⟨gb396, 1, none⟩) (bC (p := ⟨gb396, 0, none⟩) (bE HO_404001.out BK396.out (by decide)) (fun _ hk => hk.2) (.slice Ao9 y397.length co9)) (fun _ hk => hk.2) (.slice Ao8 y400.length co8)) (fun _ hk => hk.1.1.1), by repeat (first | (with_reducible first | exact HB.out | refine bS ?_ GE396.out))⟩
           ·replace c35 := Bool.eq_false_iff.mpr c35
            subst c35
            replace H : (some (y397, y400, false)) = some (r1, r2, r3) := by rw [if_neg (show ¬ (false = true) by decide)] at H; exact H
            simp only [aV, aW] at H
            obtain ⟨rfl, rfl, rfl⟩ := H
            go_wp2_with (first | ((with_reducible refine aY (f := 104) rfl ?_); refine gL 43 Try.func104 #[.string (a0.extract 0 (x5_1 : Int).toNat)] ?_; (with_reducible refine (spec_l1Signs.calls kj16 (a0.extract 0 (x5_1 : Int).toNat) t404 false _ A29.out).mono ?_); rintro e w63 ⟨v406, rfl, ho0, hb⟩; refine ⟨_, rfl, ?_⟩; replace HO_404000 := aM (Kd.R_elder' HO_404000.out (Kd.R_base ho0) hb); replace HO_404001 := aM (Kd.R_elder' HO_404001.out (Kd.R_base ho0) hb); replace BK396 := aM (aD (g := gb396) (o := .cells #[.slice none 0 0, .slice none 0 0] 94 (0, 0)) BK396.out hb); replace BK403 := aM (aD (g := gb403) (o := .cells #[.slice Ao9 y397.length co9, .slice Ao8 y400.length co8] 94 (0, 0)) BK403.out hb); replace HB := aM (aE HB.out hb); (try clear hb); (try clear ho0)) | ((with_reducible refine aY (f := 104) rfl ?_); refine gL 54 Try.func104 #[.string (a0.extract ((ji30) : Int).toNat ((wrap64 ((a0.size : Int) - 1)) : Int).toNat)] ?_; (with_reducible refine (spec_l1Signs.calls kj16 (a0.extract ((ji30) : Int).toNat ((wrap64 ((a0.size : Int) - 1)) : Int).toNat) t408 t409 _ A34.out).mono ?_); rintro e w64 ⟨v410, rfl, ho0, hb⟩; refine ⟨_, rfl, ?_⟩; replace HO_404000 := aM (Kd.R_elder' HO_404000.out (Kd.R_base ho0) hb); replace HO_404001 := aM (Kd.R_elder' HO_404001.out (Kd.R_base ho0) hb); replace BK396 := aM (aD (g := gb396) (o := .cells #[.slice none 0 0, .slice none 0 0] 94 (0, 0)) BK396.out hb); replace BK403 := aM (aD (g := gb403) (o := .cells #[.slice Ao9 y397.length co9, .slice Ao8 y400.length co8] 94 (0, 0)) BK403.out hb); replace HB := aM (aE HB.out hb); (try clear hb); (try clear ho0); have hcz66_0 : w64.cell? ⟨gb403, 0, none⟩ = some (.slice Ao9 y397.length co9) := (aA BK403.out 0).trans rfl; have hcz66_1 : w64.cell? ⟨gb403, 1, none⟩ = some (.slice Ao8 y400.length co8) := (aA BK403.out 1).trans rfl; have hcz67_0 : w64.cell? ⟨gb396, 0, none⟩ = some (.slice none 0 0) := (aA BK396.out 0).trans rfl; have hcz67_1 : w64.cell? ⟨gb396, 1, none⟩ = some (.slice none 0 0) := (aA BK396.out 1).trans rfl; have hfz67_0 := aC BK396.out 0; have hfz67_1 := aC BK396.out 1))
            refine cF (cG rfl _ _ gb396 94 #[.slice Ao9 y397.length co9, .slice Ao8 y400.length co8] (0, 0) _ rfl (by refine bV (cs := #[.slice Ao9 y397.length co9, .slice none 0 0]) ?_ 1 _ rfl; refine bV (cs := #[.slice none 0 0, .slice none 0 0]) ?_ 0 _ rfl; exact BK396.out) Try.underlying94 rfl (by kernel_rfl)) rfl ?_
            exact ⟨_, _, by first | rfl | (simp [*, errW_none, errW_some] <;> rfl), by exact bJ (bC (p := ⟨gb396, 1, none⟩) (bC (p := ⟨gb396, 0, none⟩) (bE HO_404000.out BK396.out (by decide)) (fun _ hk => hk.2) (.slice Ao9 y397.length co9)) (fun _ hk => hk.2) (.slice Ao8 y400.length co8)) (fun _ hk => hk.1.1.1), by exact bJ (bC (p := ⟨gb396, 1, none⟩) (bC (p := ⟨gb396, 0, none⟩) (bE HO_404001.out BK396.out (by decide)) (fun _ hk => hk.2) (.slice Ao9 y397.length co9)) (fun _ hk => hk.2) (.slice Ao8 y400.length co8)) (fun _ hk => hk.1.1.1), by repeat (first | (with_reducible first | exact HB.out | refine bS ?_ GE396.out))⟩
          ·rw [if_neg c33] at H
           exact absurd H (by simp)
         ·rw [if_neg c32] at H
          exact absurd H (by simp)
        ·rw [if_neg c31] at H
         exact absurd H (by simp)
       ·rw [if_neg c28] at H
        exact absurd H (by simp)
      ·rw [if_neg c27] at H
       exact absurd H (by simp)


mutual
def spec_l1Less.l0 : Nat → Int → Int → List Bool → List Bool → Option (List Bool × List Bool)
 | 0, _, _, _, _ => none
 | k + 1, x3, x4, x413000, x413001 => if x4 < x3 then (if x4 = 0 then (none) else (spec_l1Less.l1 k x3 x4 ((Int.tmod x3 x4) == 0) x4 x413000 x413001)) else (if (x413000.length : Int) > 0 then (if 0 ≤ (wrap64 ((x413000.length : Int) - 1)) then (if (wrap64 ((x413000.length : Int) - 1)) < (x413000.length : Int) then (if 0 ≤ (wrap64 (x3 - 1)) then (if (wrap64 (x3 - 1)) < (x413001.length : Int) then (if ((rdOf false x413000 (wrap64 ((x413000.length : Int) - 1))) == (rdOf false x413001 (wrap64 (x3 - 1)))) = true then ((some (([rdOf false x413001 (wrap64 (x3 - 1))] : List Bool) : List Bool)).bind fun y417 => (if (wrap64 (x3 - 1)) ≤ (x413001.length : Int) then ((some (x413001.take ((wrap64 (x3 - 1)) : Int).toNat : List Bool)).bind fun y420 => (if y417.length + y420.length < 140737488355328 then (if (wrap64 ((x413000.length : Int) - 1)) ≤ (x413000.length : Int) then ((spec_l1Less.f k (x413000.take ((wrap64 ((x413000.length : Int) - 1)) : Int).toNat) (y417 ++ y420)).bind fun bt433 => (some (bt433.1, bt433.2))) else (none)) else (none))) else (none))) else (some (x413000, x413001))) else (none)) else (none)) else (none)) else (none)) else (some (x413000, x413001)))
def spec_l1Less.l1 : Nat → Int → Int → Bool → Int → List Bool → List Bool → Option (List Bool × List Bool)
 | 0, _, _, _, _, _, _ => none
 | k + 1, x3, x4, x5, x6, x413000, x413001 => if x6 < x3 then (if x5 = true then (if 0 ≤ x6 then (if x6 < (x413001.length : Int) then (if 0 ≤ (wrap64 (x6 - x4)) then (if (wrap64 (x6 - x4)) < (x413001.length : Int) then (spec_l1Less.l1 k x3 x4 ((rdOf false x413001 x6) == (rdOf false x413001 (wrap64 (x6 - x4)))) (wrap64 (x6 + 1)) x413000 x413001) else (none)) else (none)) else (none)) else (none)) else (spec_l1Less.l0 k x3 (wrap64 (x4 + 1)) x413000 x413001)) else (if x5 = true then (if 0 ≤ x4 then (if x4 ≤ (x413001.length : Int) then ((spec_l1Less.f k x413000 (x413001.take (x4 : Int).toNat)).bind fun bt446 => (some (bt446.1, bt446.2))) else (none)) else (none)) else (spec_l1Less.l0 k x3 (wrap64 (x4 + 1)) x413000 x413001))
def spec_l1Less.f : Nat → List Bool → List Bool → Option (List Bool × List Bool)
 | 0, _, _ => none
 | k + 1, l0_0, l0_1 => spec_l1Less.l0 k (l0_1.length : Int) 1 l0_0 l0_1
end
def spec_l1Less.T11 : Bool × List (List Nat × List Nat) := (true, [([], []), ([0], [0]), ([], []), ([2], [2]), ([], []), ([3, 4], [3, 4]), ([1, 5], [1, 5]), ([6], [6]), ([7, 7, 0, 1, 2, 3, 4, 5, 6, 7], [7])])
def spec_l1Less.B11 : List Nat := [0, 1, 0, 4, 0, 28, 63, 127, 255]
theorem spec_l1Less.tab11 : rtab .any (opsOf Try.f92 11) = spec_l1Less.T11 := by kernel_rfl
theorem spec_l1Less.bits11 : waitsOk spec_l1Less.T11.2 spec_l1Less.B11 = true := by kernel_rfl
def spec_l1Less.T14 : Bool × List (List Nat × List Nat) := (true, [([], []), ([0], [0]), ([], []), ([2], [2]), ([1, 3], [1, 3]), ([4], [4]), ([5], [5]), ([], []), ([7], [7]), ([], []), ([9], [9]), ([8, 10], [8, 10]), ([6, 11], [6, 11]), ([12, 12, 0, 1, 2, 3, 4, 5, 6, 7, 8, 9, 10, 11, 12], [12])])
def spec_l1Less.B14 : List Nat := [0, 1, 0, 4, 15, 31, 63, 0, 128, 0, 512, 1920, 4095, 8191]
theorem spec_l1Less.tab14 : rtab .any (opsOf Try.f92 14) = spec_l1Less.T14 := by kernel_rfl
theorem spec_l1Less.bits14 : waitsOk spec_l1Less.T14.2 spec_l1Less.B14 = true := by kernel_rfl
set_option maxHeartbeats 8000000 in
set_option maxRecDepth 100000 in
theorem spec_l1Less.calls (k : Nat) : ∀ (P0_0_ : Nat → Prop) (A0_0 : Option Addr) (c0_0 : Nat) (l0_0 : List Bool) (P0_1_ : Nat → Prop) (A0_1 : Option Addr) (c0_1 : Nat) (l0_1 : List Bool) (r1 : List Bool) (r2 : List Bool) (w : World) (hs0_0 : Kd.V Kd.bool 4 w w.heap.size (fun k_ => P0_0_ k_) (.slice A0_0 l0_0.length c0_0) l0_0) (hs0_1 : Kd.V Kd.bool 4 w w.heap.size (fun k_ => P0_1_ k_) (.slice A0_1 l0_1.length c0_1) l0_1) (h : spec_l1Less.f k l0_0 l0_1 = some (r1, r2)),
  Calls Try.prog 92 #[.agg #[.slice A0_0 l0_0.length c0_0, .slice A0_1 l0_1.length c0_1]] w fun e w' => ∃ v0_ v1_ : Value, e = .returned (.agg #[v0_, v1_]) ∧ Kd.V Kd.bool 4 w' w.heap.size (fun k_ => ((P0_0_ k_ ∨ P0_1_ k_) ∨ w.heap.size ≤ k_)) v0_ r1 ∧ Kd.V Kd.bool 4 w' w.heap.size (fun k_ => ((P0_0_ k_ ∨ P0_1_ k_) ∨ w.heap.size ≤ k_)) v1_ r2 ∧ Below w.heap.size w w' := by
 induction k using Nat.strongRecOn with
 | _ k ih =>
 intro P0_0_ A0_0 c0_0 l0_0 P0_1_ A0_1 c0_1 l0_1 r1 r2 w hs0_0 hs0_1 h
 cases k with
 | zero => exact absurd h (by simp [spec_l1Less.f])
 | succ k =>
 simp only [spec_l1Less.f] at h
 have HO0_0 := aM (show Kd.V Kd.bool 4 w w.heap.size (fun k_ => ((P0_0_ k_ ∨ P0_1_ k_) ∨ w.heap.size ≤ k_)) (.slice A0_0 l0_0.length c0_0) l0_0 from bK hs0_0 (fun k_ hk => .inl (.inl hk)))
 have HO0_1 := aM (show Kd.V Kd.bool 4 w w.heap.size (fun k_ => ((P0_0_ k_ ∨ P0_1_ k_) ∨ w.heap.size ≤ k_)) (.slice A0_1 l0_1.length c0_1) l0_1 from bK hs0_1 (fun k_ hk => .inl (.inr hk)))
 have HB := aM (cE w.heap.size w)
 have H : (spec_l1Less.l0 k (l0_1.length : Int) 1 l0_0 l0_1) = some (r1, r2) := h
 clear h
 have H' := aM H
 clear H
 go_enter Try.func92, Try.ntmps92
 go_wp2_with (first | ((with_reducible refine aZ (N := 1) rfl ?_); refine bB ?hg (N := 1) ?hd (cs := #[.slice A0_0 l0_0.length c0_0, .slice A0_1 l0_1.length c0_1]) (t := 94) ?hr ?_; (case hd => rfl); (case hg => rfl); (case hr => first | (go_simp; done)); intro gb412 hg w2 hbox hb; replace HO0_0 := aM (bH (Kd.V_elderB HO0_0.out gb412 (Nat.le_of_eq hg.symm)) hb); replace HO0_1 := aM (bH (Kd.V_elderB HO0_1.out gb412 (Nat.le_of_eq hg.symm)) hb); have BK412 := aM hbox; replace HB := aM (aE HB.out hb); clear hb hbox hg) | ((with_reducible refine aZ (N := 2) rfl ?_); refine bB ?hg (N := 2) ?hd (cs := #[.slice none 0 0, .slice none 0 0]) (t := 94) ?hr ?_; (case hd => rfl); (case hg => rfl); (case hr => first | (go_simp; done)); intro gb413 hg w3 hbox hb; replace HO0_0 := aM (bH (Kd.V_elderB HO0_0.out gb413 (Nat.le_of_eq hg.symm)) hb); replace HO0_1 := aM (bH (Kd.V_elderB HO0_1.out gb413 (Nat.le_of_eq hg.symm)) hb); have BK413 := aM hbox; have GE413 := aM ((by rw [hg]; exact (aG HB.out) : w.heap.size ≤ gb413)); replace HB := aM (aE HB.out hb); have NB412_413 := aM ((by rw [hg]; exact Nat.ne_of_lt (blk_lt (g := gb412) (o := .cells #[.slice A0_0 l0_0.length c0_0, .slice A0_1 l0_1.length c0_1] 94 (0, 0)) BK412.out) : gb412 ≠ gb413)); replace BK412 := aM (aD (g := gb412) (o := .cells #[.slice A0_0 l0_0.length c0_0, .slice A0_1 l0_1.length c0_1] 94 (0, 0)) BK412.out hb); clear hb hbox hg; have hcz5_0 : w3.cell? ⟨gb412, 0, none⟩ = some (.slice A0_0 l0_0.length c0_0) := (aA BK412.out 0).trans rfl; have hcz5_1 : w3.cell? ⟨gb412, 1, none⟩ = some (.slice A0_1 l0_1.length c0_1) := (aA BK412.out 1).trans rfl; have hfz5_0 := aC BK412.out 0; have hfz5_1 := aC BK412.out 1))
 go_loopg [4] k (fun kq v4 w' => ∃ (x4_1 : Int), v4 = .int .i64 x4_1 ∧ Aside0 (spec_l1Less.l0 kq (l0_1.length : Int) x4_1 l0_0 l0_1 = some (r1, r2)) ∧ Aside0 (kq ≤ k) ∧ Aside0 (Kd.V Kd.bool 4 w' w.heap.size (fun k_ => ((P0_0_ k_ ∨ P0_1_ k_) ∨ w.heap.size ≤ k_) ∧ k_ ≠ gb412 ∧ k_ ≠ gb413) (.slice A0_0 l0_0.length c0_0) l0_0) ∧ Aside0 (Kd.V Kd.bool 4 w' w.heap.size (fun k_ => ((P0_0_ k_ ∨ P0_1_ k_) ∨ w.heap.size ≤ k_) ∧ k_ ≠ gb412 ∧ k_ ≠ gb413) (.slice A0_1 l0_1.length c0_1) l0_1) ∧ Aside0 (w'.heap[gb412]? = some (.cells #[(.slice A0_0 l0_0.length c0_0), (.slice A0_1 l0_1.length c0_1)] 94 (0, 0))) ∧ Aside0 (w'.heap[gb413]? = some (.cells #[(.slice none 0 0), (.slice none 0 0)] 94 (0, 0))) ∧ Aside0 (Below w.heap.size w w'))
 case atStart => exact ⟨(1), (by rfl), H', ⟨cD _⟩, ⟨by exact bK HO0_0.out (fun _ hk => ⟨hk.1.1, ⟨hk.1.2, hk.2⟩⟩)⟩, ⟨by exact bK HO0_1.out (fun _ hk => ⟨hk.1.1, ⟨hk.1.2, hk.2⟩⟩)⟩, ⟨by exact BK412.out⟩, ⟨by exact BK413.out⟩, ⟨HB.out⟩⟩
 case round =>
  clear H'
  try clear hcz5_0
  try clear hcz5_1
  try clear hfz5_0
  try clear hfz5_1
  obtain ⟨x4_1, rfl, HA, HK1, HO_413000, HO_413001, BK412, BK413, HB⟩ := hrel
  cases gk with
  | zero => exact absurd HA.out (by simp [spec_l1Less.l0])
  | succ k1 =>
   have H := HA.out
   clear HA
   simp only [spec_l1Less.l0] at H
   by_cases c6 : x4_1 < (l0_1.length : Int)
   ·rw [if_pos c6] at H
    have c6b0 : decide (x4_1 < (l0_1.length : Int)) = true := aH c6
    clear c6
    by_cases c7 : x4_1 = 0
    ·rw [if_pos c7] at H
     exact absurd H (by simp)
    ·rw [if_neg c7] at H
     have c7b0 : (x4_1 == 0) = false := beq_eq_false_iff_ne.mpr c7
     have c7b1 : (x4_1 != 0) = true := bne_iff_ne.mpr c7
     have H' := aM H
     clear H
     go_wp2
     go_loopg [5, 6] k1 (fun kq v5 v6 w' => ∃ (x5_2 : Bool) (x6_2 : Int), v5 = .bool x5_2 ∧ v6 = .int .i64 x6_2 ∧ Aside0 (spec_l1Less.l1 kq (l0_1.length : Int) x4_1 x5_2 x6_2 l0_0 l0_1 = some (r1, r2)) ∧ Aside0 (kq ≤ k1) ∧ Aside0 (Kd.V Kd.bool 4 w' w.heap.size (fun k_ => ((P0_0_ k_ ∨ P0_1_ k_) ∨ w.heap.size ≤ k_) ∧ k_ ≠ gb412 ∧ k_ ≠ gb413) (.slice A0_0 l0_0.length c0_0) l0_0) ∧ Aside0 (Kd.V Kd.bool 4 w' w.heap.size (fun k_ => ((P0_0_ k_ ∨ P0_1_ k_) ∨ w.heap.size ≤ k_) ∧ k_ ≠ gb412 ∧ k_ ≠ gb413) (.slice A0_1 l0_1.length c0_1) l0_1) ∧ Aside0 (w'.heap[gb412]? = some (.cells #[(.slice A0_0 l0_0.length c0_0), (.slice A0_1 l0_1.length c0_1)] 94 (0, 0))) ∧ Aside0 (w'.heap[gb413]? = some (.cells #[(.slice none 0 0), (.slice none 0 0)] 94 (0, 0))) ∧ Aside0 (Below w.heap.size w w'))
     case atStart => exact ⟨(((Int.tmod (l0_1.length : Int) x4_1) == 0)), (x4_1), (by first | (simp [Int.tmod_eq_emod_of_nonneg]; done)), (by rfl), H', ⟨cD _⟩, ⟨by exact HO_413000.out⟩, ⟨by exact HO_413001.out⟩, ⟨by exact BK412.out⟩, ⟨by exact BK413.out⟩, ⟨HB.out⟩⟩
     case round =>
      clear H'
      try clear c6b0
      try clear c7
      try clear c7b0
      try clear c7b1
      obtain ⟨x5_2, x6_2, rfl, rfl, HA, HK2, HO_413000, HO_413001, BK412, BK413, HB⟩ := hrel
      cases gk with
      | zero => exact absurd HA.out (by simp [spec_l1Less.l1])
      | succ k2 =>
       have H := HA.out
       clear HA
       simp only [spec_l1Less.l1] at H
       by_cases c8 : x6_2 < (l0_1.length : Int)
       ·rw [if_pos c8] at H
        have c8b0 : decide (x6_2 < (l0_1.length : Int)) = true := aH c8
        clear c8
        by_cases c9 : x5_2 = true
        ·subst c9
         replace H : (if 0 ≤ x6_2 then (if x6_2 < (l0_1.length : Int) then (if 0 ≤ (wrap64 (x6_2 - x4_1)) then (if (wrap64 (x6_2 - x4_1)) < (l0_1.length : Int) then (spec_l1Less.l1 k2 (l0_1.length : Int) x4_1 ((rdOf false l0_1 x6_2) == (rdOf false l0_1 (wrap64 (x6_2 - x4_1)))) (wrap64 (x6_2 + 1)) l0_0 l0_1) else (none)) else (none)) else (none)) else (none)) = some (r1, r2) := by rw [if_pos rfl] at H; exact H
         by_cases c10 : 0 ≤ x6_2
         ·rw [if_pos c10] at H
          have c10b0 : decide (0 ≤ x6_2) = true := aH c10
          clear c10
          by_cases c11 : x6_2 < (l0_1.length : Int)
          ·rw [if_pos c11] at H
           have c11b0 : decide (x6_2 < (l0_1.length : Int)) = true := aH c11
           clear c11
           obtain ⟨ji12, hji12⟩ : ∃ j_ : Int, (wrap64 (x6_2 - x4_1)) = j_ := ⟨_, rfl⟩
           replace H : (if 0 ≤ (ji12) then (if (ji12) < (l0_1.length : Int) then (spec_l1Less.l1 k2 (l0_1.length : Int) x4_1 ((rdOf false l0_1 x6_2) == (rdOf false l0_1 (ji12))) (wrap64 (x6_2 + 1)) l0_0 l0_1) else (none)) else (none)) = some (r1, r2) := by first | (rw [hji12] at H; exact H)
           have hji12w : (IntKind.i64.wrap (x6_2 - x4_1)) = ji12 := (cS _).trans hji12
           by_cases c13 : 0 ≤ (ji12)
           ·rw [if_pos c13] at H
            have c13b0 : decide (0 ≤ (ji12)) = true := aH c13
            clear c13
            by_cases c14 : (ji12) < (l0_1.length : Int)
            ·rw [if_pos c14] at H
             have c14b0 : decide ((ji12) < (l0_1.length : Int)) = true := aH c14
             clear c14
             have H' := aM H
             clear H
             try go_wp2
             replace HO_413000 := aM (vD HO_413000.out)
             replace HO_413001 := aM (vD HO_413001.out)
             replace BK412 := aM (kD BK412.out)
             replace BK413 := aM (kD BK413.out)
             replace HB := aM (b1 HB.out)
             have p439 : 0 ≤ (x6_2 : Int) := aJ (by (with_reducible assumption))
             have q439 : x6_2 < (l0_1.length : Int) := aJ (by (with_reducible assumption))
             obtain ⟨ad439, e439, hx439_0⟩ := Kd.at_bool (Kd.V_reads' HO_413001.out).2.2 x6_2 p439 q439
             cases e439
             replace p439 := eq_true p439
             replace q439 := eq_true q439
             have p440 : 0 ≤ ((ji12) : Int) := aJ (by (with_reducible assumption))
             have q440 : (ji12) < (l0_1.length : Int) := aJ (by (with_reducible assumption))
             obtain ⟨ad440, e440, hx440_0⟩ := Kd.at_bool (Kd.V_reads' HO_413001.out).2.2 (ji12) p440 q440
             obtain rfl : ad439 = ad440 := (by injection e440)
             replace p440 := eq_true p440
             replace q440 := eq_true q440
             have s1_ : wr.cell? ⟨gb412, 1, none⟩ = some (.slice (some ad439) l0_1.length c0_1) := (aA BK412.out 1).trans rfl
             go_region
             generalize wr.drew = w15 at HO_413000 HO_413001 BK412 BK413 HB hx439_0 hx440_0 ⊢
             try go_wp2
             go_roundg k2
             case measure => have := HK1.out; have := HK2.out; omega
             case rel => exact ⟨(((rdOf false l0_1 x6_2) == (rdOf false l0_1 (ji12)))), (wrap64 (x6_2 + 1)), (by rfl), (by rfl), H', ⟨by have := HK1.out; have := HK2.out; omega⟩, ⟨by exact HO_413000.out⟩, ⟨by exact HO_413001.out⟩, ⟨by exact BK412.out⟩, ⟨by exact BK413.out⟩, ⟨HB.out⟩⟩
            ·rw [if_neg c14] at H
             exact absurd H (by simp)
           ·rw [if_neg c13] at H
            exact absurd H (by simp)
          ·rw [if_neg c11] at H
           exact absurd H (by simp)
         ·rw [if_neg c10] at H
          exact absurd H (by simp)
        ·replace c9 := Bool.eq_false_iff.mpr c9
         subst c9
         replace H : (spec_l1Less.l0 k2 (l0_1.length : Int) (wrap64 (x4_1 + 1)) l0_0 l0_1) = some (r1, r2) := by rw [if_neg (show ¬ (false = true) by decide)] at H; exact H
         have H' := aM H
         clear H
         go_wp2
         go_roundg k2
         case measure => have := HK1.out; have := HK2.out; omega
         case rel => exact ⟨(wrap64 (x4_1 + 1)), (by rfl), H', ⟨by have := HK1.out; have := HK2.out; omega⟩, ⟨by exact HO_413000.out⟩, ⟨by exact HO_413001.out⟩, ⟨by exact BK412.out⟩, ⟨by exact BK413.out⟩, ⟨HB.out⟩⟩
       ·rw [if_neg c8] at H
        have c8b0 : decide (x6_2 < (l0_1.length : Int)) = false := aK c8
        clear c8
        by_cases c16 : x5_2 = true
        ·subst c16
         replace H : (if 0 ≤ x4_1 then (if x4_1 ≤ (l0_1.length : Int) then ((spec_l1Less.f k2 l0_0 (l0_1.take (x4_1 : Int).toNat)).bind fun bt446 => (some (bt446.1, bt446.2))) else (none)) else (none)) = some (r1, r2) := by rw [if_pos rfl] at H; exact H
         by_cases c17 : 0 ≤ x4_1
         ·rw [if_pos c17] at H
          have c17b0 := eq_true c17
          have c17b1 : decide (0 ≤ x4_1) = true := aH c17
          clear c17
          by_cases c18 : x4_1 ≤ (l0_1.length : Int)
          ·rw [if_pos c18] at H
           have c18b1 : decide (x4_1 ≤ (l0_1.length : Int)) = true := aH c18
           clear c18
           obtain ⟨y441, hy441⟩ : ∃ y_ : List Bool, y_ = (l0_1.take (x4_1 : Int).toNat) := ⟨_, rfl⟩
           replace H : ((spec_l1Less.f k2 l0_0 y441).bind fun bt446 => (some (bt446.1, bt446.2))) = some (r1, r2) := by first | (rw [hy441]; with_reducible exact H)
           have Ny441 := aM hy441
           clear hy441
           replace H := Option.bind_eq_some_iff.mp H
           obtain ⟨⟨t446, t449⟩, A190, H⟩ := H
           replace H : (some (t446, t449)) = some (r1, r2) := H
           have A19 := aM A190
           clear A190
           simp only [aV, aW] at H
           obtain ⟨rfl, rfl⟩ := H
           try go_wp2
           replace HO_413000 := aM (vD HO_413000.out)
           replace HO_413001 := aM (vD HO_413001.out)
           replace BK412 := aM (kD BK412.out)
           replace BK413 := aM (kD BK413.out)
           replace HB := aM (b1 HB.out)
           have q21 : (x4_1 : Int) ≤ ((l0_1.length : Int) : Int) := aJ (by (with_reducible assumption))
           obtain ⟨i021, hi021, _, hsz21, _⟩ := info_parts info4
           have hroom21 : l0_1.length ≤ c0_1 := (Kd.V_reads' HO_413001.out).2.1
           have hC21 : Kd.F Kd.bool _ _ A0_1 l0_1.length l0_1 := (Kd.V_at (base := w.heap.size) HO_413001.out).2.2
           have hcut21 := cut_to (P := Try.prog) 52 4 .i64 Try.underlying52 hi021 A0_1 l0_1.length c0_1 x4_1 (aJ (by (with_reducible assumption))) q21 hroom21
           have hr21 := Kd.F_take (m := (x4_1 : Int).toNat) hC21 (by omega)
           have hy21 : y441.length = (x4_1 : Int).toNat := (by rw [Ny441.out, List.length_take]; omega)
           rw [← Ny441.out] at hr21
           rw [← hy21] at hcut21
           have HO445 := aM (show Kd.V Kd.bool 4 _ w.heap.size _ (.slice A0_1 y441.length c0_1) y441 from Kd.V_mk (by omega) hr21)
           clear hr21 hC21 hroom21 hi021 hsz21
           clear hy21
           refine start_ (n := 9) (S := fun w' => w'.cell? ⟨gb412, 0, none⟩ = some (.slice A0_0 l0_0.length c0_0) ∧ w'.cell? ⟨gb412, 1, none⟩ = some (.slice A0_1 l0_1.length c0_1)) (ds := []) #[false, false, false, false, false, false, false, false, false] (by kernel_rfl) rfl rfl ⟨(aA BK412.out 0).trans rfl, (aA BK412.out 1).trans rfl⟩ (fun hHeld => ?_); refine with_tabW spec_l1Less.tab11 spec_l1Less.bits11 (fun HT_ HW_ => ?_)
           generalize wr.drew = w20 at HO_413000 HO_413001 BK412 BK413 HB HO445 hHeld ⊢
           refine pQ 0 44 HT_ ?_
           refine pQ 2 46 HT_ ?_
           refine pQ 4 48 HT_ ?_
           refine tQ 1 45 HT_ HW_ hHeld ?_
           refine tQ 3 47 HT_ HW_ hHeld ?_
           refine pQ 5 49 HT_ ?_
           refine pQ 6 50 HT_ ?_
           refine oQ 7 51 HT_ (fun K hK => ?_)
           refine gO Try.func92 #[.agg #[.slice A0_0 l0_0.length c0_0, .slice A0_1 y441.length c0_1]] ?_
           with_reducible refine (ih k2 (by have := HK1.out; have := HK2.out; omega) (fun k_ => (((P0_0_ k_ ∨ P0_1_ k_) ∨ w.heap.size ≤ k_) ∧ (k_ ≠ gb412 ∧ k_ ≠ gb413))) _ _ l0_0 (fun k_ => (((P0_0_ k_ ∨ P0_1_ k_) ∨ w.heap.size ≤ k_) ∧ (k_ ≠ gb412 ∧ k_ ≠ gb413))) _ _ y441 t446 t449 _ ?side1 ?side2 A19.out).mono ?_
           (case side1 => exact HO_413000.out)
           (case side2 => exact HO445.out)
           rintro e w22 ⟨v447, v450, rfl, ho0, ho1, hb⟩
           refine ⟨_, rfl, ?_⟩
           have HO448 := aM (bQ (bK (ok' := fun k_ => ((P0_0_ k_ ∨ P0_1_ k_) ∨ w.heap.size ≤ k_) ∧ k_ ≠ gb412 ∧ k_ ≠ gb413) ho0 (fun k_ hk_ => ⟨Or.elim hk_ (fun hs_ => Or.elim hs_ (fun hs_ => hs_.1) (fun hs_ => hs_.1)) (fun hn_ => (.inr (Nat.le_trans (aG HB.out) hn_))), Or.elim hk_ (fun hs_ => Or.elim hs_ (fun hs_ => hs_.2.1) (fun hs_ => hs_.2.1)) (fun hn_ => (Kd.freshB (g := gb412) (o := .cells #[.slice A0_0 l0_0.length c0_0, .slice A0_1 l0_1.length c0_1] 94 (0, 0)) BK412.out k_ hn_)), Or.elim hk_ (fun hs_ => Or.elim hs_ (fun hs_ => hs_.2.2) (fun hs_ => hs_.2.2)) (fun hn_ => (Kd.freshB (g := gb413) (o := .cells #[.slice none 0 0, .slice none 0 0] 94 (0, 0)) BK413.out k_ hn_))⟩)) (aG HB.out))
           have HO451 := aM (bQ (bK (ok' := fun k_ => ((P0_0_ k_ ∨ P0_1_ k_) ∨ w.heap.size ≤ k_) ∧ k_ ≠ gb412 ∧ k_ ≠ gb413) ho1 (fun k_ hk_ => ⟨Or.elim hk_ (fun hs_ => Or.elim hs_ (fun hs_ => hs_.1) (fun hs_ => hs_.1)) (fun hn_ => (.inr (Nat.le_trans (aG HB.out) hn_))), Or.elim hk_ (fun hs_ => Or.elim hs_ (fun hs_ => hs_.2.1) (fun hs_ => hs_.2.1)) (fun hn_ => (Kd.freshB (g := gb412) (o := .cells #[.slice A0_0 l0_0.length c0_0, .slice A0_1 l0_1.length c0_1] 94 (0, 0)) BK412.out k_ hn_)), Or.elim hk_ (fun hs_ => Or.elim hs_ (fun hs_ => hs_.2.2) (fun hs_ => hs_.2.2)) (fun hn_ => (Kd.freshB (g := gb413) (o := .cells #[.slice none 0 0, .slice none 0 0] 94 (0, 0)) BK413.out k_ hn_))⟩)) (aG HB.out))
           replace BK412 := aM (aD (g := gb412) (o := .cells #[.slice A0_0 l0_0.length c0_0, .slice A0_1 l0_1.length c0_1] 94 (0, 0)) BK412.out hb)
           replace BK413 := aM (aD (g := gb413) (o := .cells #[.slice none 0 0, .slice none 0 0] 94 (0, 0)) BK413.out hb)
           replace HB := aM (aE HB.out hb)
           (try clear hb)
           (try clear ho0)
           (try clear ho1)
           obtain ⟨Ao23, co23, eo23⟩ := Kd.V_slice HO448.out
           (subst eo23)
           obtain ⟨Ao25, co25, eo25⟩ := Kd.V_slice HO451.out
           (subst eo25)
           refine hK.out _ _ ⟨(aA BK412.out 0).trans rfl, (aA BK412.out 1).trans rfl⟩ (fun hHeld => ?_)
           clear hK K
           refine nQ ?_
           refine one_ (i := 8) (N := none) #[true, true, true, true, true, true, true, true, true] rfl rfl (one_of HT_.out (by kernel_rfl)) (by decide) (fun K hK => ?_)
           have hs24 : w22.cell? ⟨gb413, 0, none⟩ = some (.slice none 0 0) := (aA BK413.out 0).trans rfl
           have hfs24 := aC BK413.out 0
           have hs26 : w22.cell? ⟨gb413, 1, none⟩ = some (.slice none 0 0) := (aA BK413.out 1).trans rfl
           have hfs26 := aC BK413.out 1
           refine skip_ (w1 := ?_) (by rfl) rfl ?_ ?_
           rotate_left
           ·go_simp
            rfl
           refine hK.out _ _ ⟨((cell_far (p := ⟨gb413, _, none⟩) NB412_413.out _).trans (((cell_far (p := ⟨gb413, _, none⟩) NB412_413.out _).trans (hHeld.1)))), ((cell_far (p := ⟨gb413, _, none⟩) NB412_413.out _).trans (((cell_far (p := ⟨gb413, _, none⟩) NB412_413.out _).trans (hHeld.2))))⟩ (fun hHeld => ?_)
           clear hK K
           refine done_ (done_of HT_.out (by kernel_rfl)) ?_
           try go_wp2
           refine cF (results_cell_row rfl _ _ gb413 94 #[.slice Ao23 t446.length co23, .slice Ao25 t449.length co25] (0, 0) _ rfl (by refine bV (cs := #[.slice Ao23 t446.length co23, .slice none 0 0]) ?_ 1 _ rfl; refine bV (cs := #[.slice none 0 0, .slice none 0 0]) ?_ 0 _ rfl; exact BK413.out) Try.underlying94 rfl (by kernel_rfl)) rfl ?_
           exact ⟨_, _, by first | rfl | (simp [*, errW_none, errW_some] <;> rfl), by exact bK (bD (p := ⟨gb413, 1, none⟩) (bD (p := ⟨gb413, 0, none⟩) (bK HO448.out (fun k_ hk => (⟨hk, hk.2.2⟩ : _ ∧ k_ ≠ gb413))) (fun _ hk => hk.2) (.slice Ao23 t446.length co23)) (fun _ hk => hk.2) (.slice Ao25 t449.length co25)) (fun _ hk => hk.1.1), by exact bK (bD (p := ⟨gb413, 1, none⟩) (bD (p := ⟨gb413, 0, none⟩) (bK HO451.out (fun k_ hk => (⟨hk, hk.2.2⟩ : _ ∧ k_ ≠ gb413))) (fun _ hk => hk.2) (.slice Ao23 t446.length co23)) (fun _ hk => hk.2) (.slice Ao25 t449.length co25)) (fun _ hk => hk.1.1), by repeat (first | (with_reducible first | exact HB.out | refine bS ?_ GE413.out))⟩
          ·rw [if_neg c18] at H
           exact absurd H (by simp)
         ·rw [if_neg c17] at H
          exact absurd H (by simp)
        ·replace c16 := Bool.eq_false_iff.mpr c16
         subst c16
         replace H : (spec_l1Less.l0 k2 (l0_1.length : Int) (wrap64 (x4_1 + 1)) l0_0 l0_1) = some (r1, r2) := by rw [if_neg (show ¬ (false = true) by decide)] at H; exact H
         have H' := aM H
         clear H
         go_wp2
         go_roundg k2
         case measure => have := HK1.out; have := HK2.out; omega
         case rel => exact ⟨(wrap64 (x4_1 + 1)), (by rfl), H', ⟨by have := HK1.out; have := HK2.out; omega⟩, ⟨by exact HO_413000.out⟩, ⟨by exact HO_413001.out⟩, ⟨by exact BK412.out⟩, ⟨by exact BK413.out⟩, ⟨HB.out⟩⟩
   ·rw [if_neg c6] at H
    have c6b0 : decide (x4_1 < (l0_1.length : Int)) = false := aK c6
    clear c6
    by_cases c27 : (l0_0.length : Int) > 0
    ·rw [if_pos c27] at H
     have c27b1 : decide (0 < l0_0.length) = true := aH (by omega)
     clear c27
     obtain ⟨ji28, hji28⟩ : ∃ j_ : Int, (wrap64 ((l0_0.length : Int) - 1)) = j_ := ⟨_, rfl⟩
     replace H : (if 0 ≤ (ji28) then (if (ji28) < (l0_0.length : Int) then (if 0 ≤ (wrap64 ((l0_1.length : Int) - 1)) then (if (wrap64 ((l0_1.length : Int) - 1)) < (l0_1.length : Int) then (if ((rdOf false l0_0 (ji28)) == (rdOf false l0_1 (wrap64 ((l0_1.length : Int) - 1)))) = true then ((some (([rdOf false l0_1 (wrap64 ((l0_1.length : Int) - 1))] : List Bool) : List Bool)).bind fun y417 => (if (wrap64 ((l0_1.length : Int) - 1)) ≤ (l0_1.length : Int) then ((some (l0_1.take ((wrap64 ((l0_1.length : Int) - 1)) : Int).toNat : List Bool)).bind fun y420 => (if y417.length + y420.length < 140737488355328 then (if (ji28) ≤ (l0_0.length : Int) then ((spec_l1Less.f k1 (l0_0.take ((ji28) : Int).toNat) (y417 ++ y420)).bind fun bt433 => (some (bt433.1, bt433.2))) else (none)) else (none))) else (none))) else (some (l0_0, l0_1))) else (none)) else (none)) else (none)) else (none)) = some (r1, r2) := by first | (rw [hji28] at H; exact H)
     have hji28w : (IntKind.i64.wrap ((l0_0.length : Int) - 1)) = ji28 := (cS _).trans hji28
     by_cases c29 : 0 ≤ (ji28)
     ·rw [if_pos c29] at H
      have c29b0 : decide (0 ≤ (ji28)) = true := aH c29
      clear c29
      by_cases c30 : (ji28) < (l0_0.length : Int)
      ·rw [if_pos c30] at H
       have c30b0 : decide ((ji28) < (l0_0.length : Int)) = true := aH c30
       clear c30
       obtain ⟨ji31, hji31⟩ : ∃ j_ : Int, (wrap64 ((l0_1.length : Int) - 1)) = j_ := ⟨_, rfl⟩
       replace H : (if 0 ≤ (ji31) then (if (ji31) < (l0_1.length : Int) then (if ((rdOf false l0_0 (ji28)) == (rdOf false l0_1 (ji31))) = true then ((some (([rdOf false l0_1 (ji31)] : List Bool) : List Bool)).bind fun y417 => (if (ji31) ≤ (l0_1.length : Int) then ((some (l0_1.take ((ji31) : Int).toNat : List Bool)).bind fun y420 => (if y417.length + y420.length < 140737488355328 then (if (ji28) ≤ (l0_0.length : Int) then ((spec_l1Less.f k1 (l0_0.take ((ji28) : Int).toNat) (y417 ++ y420)).bind fun bt433 => (some (bt433.1, bt433.2))) else (none)) else (none))) else (none))) else (some (l0_0, l0_1))) else (none)) else (none)) = some (r1, r2) := by first | (rw [hji31] at H; exact H)
       have hji31w : (IntKind.i64.wrap ((l0_1.length : Int) - 1)) = ji31 := (cS _).trans hji31
       by_cases c32 : 0 ≤ (ji31)
       ·rw [if_pos c32] at H
        have c32b0 : decide (0 ≤ (ji31)) = true := aH c32
        clear c32
        by_cases c33 : (ji31) < (l0_1.length : Int)
        ·rw [if_pos c33] at H
         have c33b0 : decide ((ji31) < (l0_1.length : Int)) = true := aH c33
         clear c33
         by_cases c34 : ((rdOf false l0_0 (ji28)) == (rdOf false l0_1 (ji31))) = true
         ·rw [if_pos c34] at H
          have c34b0 : ((rdOf false l0_0 (ji28)) == (rdOf false l0_1 (ji31))) = true := c34
          (try (have c34b1 : decide ((rdOf false l0_0 (ji28)) = (rdOf false l0_1 (ji31))) = true := by simpa using c34))
          (try (have c34b2 : ((rdOf false l0_0 (ji28)) == (rdOf false l0_1 (ji31))) = true := by simpa using c34))
          clear c34
          obtain ⟨y417, hy417⟩ : ∃ y_ : List Bool, y_ = (([rdOf false l0_1 (ji31)] : List Bool)) := ⟨_, rfl⟩
          replace H : (if (ji31) ≤ (l0_1.length : Int) then ((some (l0_1.take ((ji31) : Int).toNat : List Bool)).bind fun y420 => (if y417.length + y420.length < 140737488355328 then (if (ji28) ≤ (l0_0.length : Int) then ((spec_l1Less.f k1 (l0_0.take ((ji28) : Int).toNat) (y417 ++ y420)).bind fun bt433 => (some (bt433.1, bt433.2))) else (none)) else (none))) else (none)) = some (r1, r2) := by first | (have H2_ := (bR _ _).symm.trans H; rw [hy417]; with_reducible exact H2_)
          have Ny417 := aM hy417
          clear hy417
          have c35b0 := eq_true (aJ (by (with_reducible assumption)) : 0 ≤ (ji31))
          by_cases c36 : (ji31) ≤ (l0_1.length : Int)
          ·rw [if_pos c36] at H
           have c36b1 : decide ((ji31) ≤ (l0_1.length : Int)) = true := aH c36
           clear c36
           obtain ⟨y420, hy420⟩ : ∃ y_ : List Bool, y_ = (l0_1.take ((ji31) : Int).toNat) := ⟨_, rfl⟩
           replace H : (if y417.length + y420.length < 140737488355328 then (if (ji28) ≤ (l0_0.length : Int) then ((spec_l1Less.f k1 (l0_0.take ((ji28) : Int).toNat) (y417 ++ y420)).bind fun bt433 => (some (bt433.1, bt433.2))) else (none)) else (none)) = some (r1, r2) := by first | (have H2_ := (bR _ _).symm.trans H; rw [hy420]; with_reducible exact H2_)
           have Ny420 := aM hy420
           clear hy420
           by_cases c37 : y417.length + y420.length < 140737488355328
           ·rw [if_pos c37] at H
            have LMc37 := aM c37
            clear c37
            obtain ⟨y425, hy425⟩ : ∃ y_ : List Bool, y_ = (y417 ++ y420) := ⟨_, rfl⟩
            replace H : (if (ji28) ≤ (l0_0.length : Int) then ((spec_l1Less.f k1 (l0_0.take ((ji28) : Int).toNat) y425).bind fun bt433 => (some (bt433.1, bt433.2))) else (none)) = some (r1, r2) := by first | (rw [hy425]; with_reducible exact H)
            have Ny425 := aM hy425
            clear hy425
            have c38b0 := eq_true (aJ (by (with_reducible assumption)) : 0 ≤ (ji28))
            by_cases c39 : (ji28) ≤ (l0_0.length : Int)
            ·rw [if_pos c39] at H
             have c39b1 : decide ((ji28) ≤ (l0_0.length : Int)) = true := aH c39
             clear c39
             obtain ⟨y428, hy428⟩ : ∃ y_ : List Bool, y_ = (l0_0.take ((ji28) : Int).toNat) := ⟨_, rfl⟩
             replace H : ((spec_l1Less.f k1 y428 y425).bind fun bt433 => (some (bt433.1, bt433.2))) = some (r1, r2) := by first | (rw [hy428]; with_reducible exact H)
             have Ny428 := aM hy428
             clear hy428
             replace H := Option.bind_eq_some_iff.mp H
             obtain ⟨⟨t433, t436⟩, A400, H⟩ := H
             replace H : (some (t433, t436)) = some (r1, r2) := H
             have A40 := aM A400
             clear A400
             simp only [aV, aW] at H
             obtain ⟨rfl, rfl⟩ := H
             have hcz42_0 : wr.cell? ⟨gb412, 0, none⟩ = some (.slice A0_0 l0_0.length c0_0) := (aA BK412.out 0).trans rfl
             have hcz42_1 : wr.cell? ⟨gb412, 1, none⟩ = some (.slice A0_1 l0_1.length c0_1) := (aA BK412.out 1).trans rfl
             try go_wp2
             replace HO_413000 := aM (vD HO_413000.out)
             replace HO_413001 := aM (vD HO_413001.out)
             replace BK412 := aM (kD BK412.out)
             replace BK413 := aM (kD BK413.out)
             replace HB := aM (b1 HB.out)
             have p414 : 0 ≤ ((ji28) : Int) := aJ (by (with_reducible assumption))
             have q414 : (ji28) < (l0_0.length : Int) := aJ (by (with_reducible assumption))
             obtain ⟨ad414, e414, hx414_0⟩ := Kd.at_bool (Kd.V_reads' HO_413000.out).2.2 (ji28) p414 q414
             cases e414
             replace q414 := eq_true q414
             have p415 : 0 ≤ ((ji31) : Int) := aJ (by (with_reducible assumption))
             have q415 : (ji31) < (l0_1.length : Int) := aJ (by (with_reducible assumption))
             obtain ⟨ad415, e415, hx415_0⟩ := Kd.at_bool (Kd.V_reads' HO_413001.out).2.2 (ji31) p415 q415
             cases e415
             replace q415 := eq_true q415
             go_region
             generalize wr.drew = w43 at HO_413000 HO_413001 BK412 BK413 HB hx414_0 hx415_0 ⊢
             try go_wp2
             replace HO_413000 := aM (vD HO_413000.out)
             replace HO_413001 := aM (vD HO_413001.out)
             replace BK412 := aM (kD BK412.out)
             replace BK413 := aM (kD BK413.out)
             replace HB := aM (b1 HB.out)
             have p416 : 0 ≤ ((ji31) : Int) := aJ (by (with_reducible assumption))
             have q416 : (ji31) < (l0_1.length : Int) := aJ (by (with_reducible assumption))
             obtain ⟨ad416, e416, hx416_0⟩ := Kd.at_bool (Kd.V_reads' HO_413001.out).2.2 (ji31) p416 q416
             obtain rfl : ad415 = ad416 := (by injection e416)
             have q45 : ((ji31) : Int) ≤ ((l0_1.length : Int) : Int) := aJ (by (with_reducible assumption))
             obtain ⟨i045, hi045, _, hsz45, _⟩ := info_parts info4
             have hroom45 : l0_1.length ≤ c0_1 := (Kd.V_reads' HO_413001.out).2.1
             have hC45 : Kd.F Kd.bool _ _ (some ad415) l0_1.length l0_1 := (Kd.V_at (base := w.heap.size) HO_413001.out).2.2
             have hcut45 := cut_to (P := Try.prog) 52 4 .i64 Try.underlying52 hi045 (some ad415) l0_1.length c0_1 (ji31) (aJ (by (with_reducible assumption))) q45 hroom45
             have hr45 := Kd.F_take (m := ((ji31) : Int).toNat) hC45 (by omega)
             have hy45 : y420.length = ((ji31) : Int).toNat := (by rw [Ny420.out, List.length_take]; omega)
             rw [← Ny420.out] at hr45
             rw [← hy45] at hcut45
             have HO424 := aM (show Kd.V Kd.bool 4 _ w.heap.size _ (.slice (some ad415) y420.length c0_1) y420 from Kd.V_mk (by omega) hr45)
             clear hr45 hC45 hroom45 hi045 hsz45
             clear hy45
             refine start_ (n := 14) (S := fun w' => w'.cell? ⟨gb412, 0, none⟩ = some (.slice (some ad414) l0_0.length c0_0) ∧ w'.cell? ⟨gb412, 1, none⟩ = some (.slice (some ad415) l0_1.length c0_1) ∧ w'.cell? (ad415.add ((ji31)).toNat) = some (.bool (rdOf false l0_1 (ji31)))) (ds := [12]) #[false, false, false, false, false, false, false, false, false, false, false, false, false, false] (by kernel_rfl) rfl rfl ⟨(aA BK412.out 0).trans rfl, (aA BK412.out 1).trans rfl, hx416_0⟩ (fun hHeld => ?_); refine with_tabW spec_l1Less.tab14 spec_l1Less.bits14 (fun HT_ HW_ => ?_)
             generalize w43.drew = w44 at HO_413000 HO_413001 BK412 BK413 HB HO424 hx416_0 hHeld ⊢
             refine pQ 0 72 HT_ ?_
             refine pQ 2 74 HT_ ?_
             refine pQ 3 75 HT_ ?_
             refine pQ 7 79 HT_ ?_
             refine pQ 9 81 HT_ ?_
             refine pQ 10 82 HT_ ?_
             refine tQ 1 73 HT_ HW_ hHeld ?_
             refine pQ 4 76 HT_ ?_
             refine tQ 5 77 HT_ HW_ hHeld ?_
             refine tQ 8 80 HT_ HW_ hHeld ?_
             refine pQ 11 83 HT_ ?_
             refine oQ 6 78 HT_ (fun K hK => ?_)
             refine Kd.R_lit_step Kd.bool _ 4 ?hg (N := 78) ?hd (xs := ([rdOf false l0_1 (ji31)] : List Bool)) (inner := [.bool (rdOf false l0_1 (ji31))]) (ok := fun _ => True) (okp := fun _ => True) ?hr ?hp (fun _ hk => hk) trivial (cE _ _) (cD _) (by simp) ?_; (case hd => rfl); (case hg => rfl); (case hr => first | (go_simp; done)); (case hp => exact (Reps.one (show Kd.M Kd.bool _ _ _ (rdOf false l0_1 (ji31)) [.bool (rdOf false l0_1 (ji31))] from rfl) (Reps.none _ _)))
             intro v418 w46 ho47 hb hg_ hnew_
             have HS2_ := (hb.cell (World.block_lt_of_cell? _ _ (hHeld.2.2))).trans (hHeld.2.2)
             clear hg_ hnew_
             (rw [← Ny417.out] at ho47)
             replace HO_413000 := aM (Kd.V_elder' HO_413000.out (Kd.R_base ho47) hb)
             replace HO_413001 := aM (Kd.V_elder' HO_413001.out (Kd.R_base ho47) hb)
             replace HO424 := aM (Kd.V_elder' HO424.out (Kd.R_base ho47) hb)
             have HO419 := aM (bP (Kd.R_newM (M := fun k_ => (w.heap.size ≤ k_)) ho47 (aG HB.out) (fun k_ h_ => h_)) (aG HB.out))
             replace BK412 := aM (aD (g := gb412) (o := .cells #[.slice (some ad414) l0_0.length c0_0, .slice (some ad415) l0_1.length c0_1] 94 (0, 0)) BK412.out hb)
             replace BK413 := aM (aD (g := gb413) (o := .cells #[.slice none 0 0, .slice none 0 0] 94 (0, 0)) BK413.out hb)
             replace HB := aM (aE HB.out hb)
             clear hb ho47
             refine hK.out _ _ ⟨(aA BK412.out 0).trans rfl, (aA BK412.out 1).trans rfl, HS2_⟩ (fun hHeld => ?_)
             clear hK K
             refine nQ ?_
             refine last_ (i := 12) (N := some 84) #[true, true, true, true, true, true, true, true, true, true, true, true, true, false] rfl rfl (one_of HT_.out (by kernel_rfl)) (by decide) (fun K hK => ?_)
             refine Kd.R_append_rows_step Kd.bool (w0 := w) w.heap.size (by rfl) (.tmp 78) (.tmp 83) 52 4 (.bool false) 1 rfl Try.underlying52 info4 rfl (by decide) (by omega) v418 y417 y420 _ _ _ (fun k_ => (w.heap.size ≤ k_)) (fun _ => False) rfl rfl ?aO ?aR (fun _ _ h => h) (fun _ h => h.elim) ?aF ?aB ?aS ?aL ?_
             (case aR => repeat (exact (Kd.V_reads' HO424.out).2.2))
             (case aB => exact HB.out)
             (case aF => exact (fun k_ hk => (Nat.le_trans (aG HB.out) hk)))
             (case aO => exact (by exact bJ HO419.out (fun _ hk => hk.1)))
             (case aS => exact (aG HB.out))
             (case aL => have := LMc37.out; omega)
             intro v426 w48 ho hb hg hat
             rw [← Ny425.out] at ho
             replace HO_413000 := aM (Kd.V_afterv (ok := (fun k_ => ((P0_0_ k_ ∨ P0_1_ k_) ∨ w.heap.size ≤ k_) ∧ k_ ≠ gb412 ∧ k_ ≠ gb413)) HO_413000.out hg hat)
             replace HO_413001 := aM (Kd.V_afterv (ok := (fun k_ => ((P0_0_ k_ ∨ P0_1_ k_) ∨ w.heap.size ≤ k_) ∧ k_ ≠ gb412 ∧ k_ ≠ gb413)) HO_413001.out hg hat)
             replace BK412 := aM (blk_grown (g := gb412) (o := .cells #[.slice (some ad414) l0_0.length c0_0, .slice (some ad415) l0_1.length c0_1] 94 (0, 0)) BK412.out hg (Kd.R_ne HO419.out BK412.out (by decide)))
             replace BK413 := aM (blk_grown (g := gb413) (o := .cells #[.slice none 0 0, .slice none 0 0] 94 (0, 0)) BK413.out hg (Kd.R_ne HO419.out BK413.out (by decide)))
             replace HO424 := aM (Kd.V_afterv (ok := (fun k_ => ((P0_0_ k_ ∨ P0_1_ k_) ∨ w.heap.size ≤ k_) ∧ k_ ≠ gb412 ∧ k_ ≠ gb413)) HO424.out hg hat)
             replace HB := aM hb
             have HO427 := aM ho
             clear HO419
             clear ho hb hg hat
             refine hK.out _ _ ?_
             clear hK K
             refine nQ ?_
             refine pQ 13 8 HT_ ?_
             refine done_ (done_of HT_.out (by kernel_rfl)) ?_
             have hcz49_0 : w48.cell? ⟨gb412, 0, none⟩ = some (.slice (some ad414) l0_0.length c0_0) := (aA BK412.out 0).trans rfl
             have q50 : ((ji28) : Int) ≤ ((l0_0.length : Int) : Int) := aJ (by (with_reducible assumption))
             obtain ⟨i050, hi050, _, hsz50, _⟩ := info_parts info4
             have hroom50 : l0_0.length ≤ c0_0 := (Kd.V_reads' HO_413000.out).2.1
             have hC50 : Kd.F Kd.bool _ _ (some ad414) l0_0.length l0_0 := (Kd.V_at (base := w.heap.size) HO_413000.out).2.2
             have hcut50 := cut_to (P := Try.prog) 52 4 .i64 Try.underlying52 hi050 (some ad414) l0_0.length c0_0 (ji28) (aJ (by (with_reducible assumption))) q50 hroom50
             have hr50 := Kd.F_take (m := ((ji28) : Int).toNat) hC50 (by omega)
             have hy50 : y428.length = ((ji28) : Int).toNat := (by rw [Ny428.out, List.length_take]; omega)
             rw [← Ny428.out] at hr50
             rw [← hy50] at hcut50
             have HO432 := aM (show Kd.V Kd.bool 4 _ w.heap.size _ (.slice (some ad414) y428.length c0_0) y428 from Kd.V_mk (by omega) hr50)
             clear hr50 hC50 hroom50 hi050 hsz50
             clear hy50
             obtain ⟨Ao51, co51, eo51⟩ := bL HO427.out
             subst eo51
             try go_wp2_with (first | ((with_reducible refine aY (f := 92) rfl ?_); refine gL 92 Try.func92 #[.agg #[.slice (some ad414) y428.length c0_0, .slice Ao51 y425.length co51]] ?_; (with_reducible refine (ih k1 (by have := HK1.out; omega) (fun k_ => ((((P0_0_ k_ ∨ P0_1_ k_) ∨ w.heap.size ≤ k_) ∧ (k_ ≠ gb412 ∧ k_ ≠ gb413)) ∧ some k_ ≠ (.slice Ao51 y425.length co51 : Value).ownBlock)) _ _ y428 (fun k_ => some k_ = (.slice Ao51 y425.length co51 : Value).ownBlock) _ _ y425 t433 t436 _ ?side1 ?side2 A40.out).mono ?_); (case side1 => exact HO432.out); (case side2 => exact Kd.R_V (Kd.R_tight rfl (bE (bE (HO427.out) BK412.out (by decide)) BK413.out (by decide)))); rintro e w52 ⟨v434, v437, rfl, ho0, ho1, hb⟩; refine ⟨_, rfl, ?_⟩; have HO435 := aM (bQ (bK (ok' := fun k_ => ((P0_0_ k_ ∨ P0_1_ k_) ∨ w.heap.size ≤ k_) ∧ k_ ≠ gb412 ∧ k_ ≠ gb413) ho0 (fun k_ hk_ => ⟨Or.elim hk_ (fun hs_ => Or.elim hs_ (fun hs_ => hs_.1.1) (fun hs_ => (.inr (((bE (bE (HO427.out) BK412.out (by decide)) BK413.out (by decide)).1 k_ hs_.symm).1.1)))) (fun hn_ => (.inr (Nat.le_trans (aG HB.out) hn_))), Or.elim hk_ (fun hs_ => Or.elim hs_ (fun hs_ => hs_.1.2.1) (fun hs_ => ((bE (bE (HO427.out) BK412.out (by decide)) BK413.out (by decide)).1 k_ hs_.symm).1.2)) (fun hn_ => (Kd.freshB (g := gb412) (o := .cells #[.slice (some ad414) l0_0.length c0_0, .slice (some ad415) l0_1.length c0_1] 94 (0, 0)) BK412.out k_ hn_)), Or.elim hk_ (fun hs_ => Or.elim hs_ (fun hs_ => hs_.1.2.2) (fun hs_ => ((bE (bE (HO427.out) BK412.out (by decide)) BK413.out (by decide)).1 k_ hs_.symm).2)) (fun hn_ => (Kd.freshB (g := gb413) (o := .cells #[.slice none 0 0, .slice none 0 0] 94 (0, 0)) BK413.out k_ hn_))⟩)) (aG HB.out)); have HO438 := aM (bQ (bK (ok' := fun k_ => ((P0_0_ k_ ∨ P0_1_ k_) ∨ w.heap.size ≤ k_) ∧ k_ ≠ gb412 ∧ k_ ≠ gb413) ho1 (fun k_ hk_ => ⟨Or.elim hk_ (fun hs_ => Or.elim hs_ (fun hs_ => hs_.1.1) (fun hs_ => (.inr (((bE (bE (HO427.out) BK412.out (by decide)) BK413.out (by decide)).1 k_ hs_.symm).1.1)))) (fun hn_ => (.inr (Nat.le_trans (aG HB.out) hn_))), Or.elim hk_ (fun hs_ => Or.elim hs_ (fun hs_ => hs_.1.2.1) (fun hs_ => ((bE (bE (HO427.out) BK412.out (by decide)) BK413.out (by decide)).1 k_ hs_.symm).1.2)) (fun hn_ => (Kd.freshB (g := gb412) (o := .cells #[.slice (some ad414) l0_0.length c0_0, .slice (some ad415) l0_1.length c0_1] 94 (0, 0)) BK412.out k_ hn_)), Or.elim hk_ (fun hs_ => Or.elim hs_ (fun hs_ => hs_.1.2.2) (fun hs_ => ((bE (bE (HO427.out) BK412.out (by decide)) BK413.out (by decide)).1 k_ hs_.symm).2)) (fun hn_ => (Kd.freshB (g := gb413) (o := .cells #[.slice none 0 0, .slice none 0 0] 94 (0, 0)) BK413.out k_ hn_))⟩)) (aG HB.out)); replace BK413 := aM (aD (g := gb413) (o := .cells #[.slice none 0 0, .slice none 0 0] 94 (0, 0)) BK413.out hb); replace HB := aM (aE HB.out hb); (try clear hb); (try clear ho0); (try clear ho1); obtain ⟨Ao53, co53, eo53⟩ := Kd.V_slice HO435.out; subst eo53; have hcz54_0 : w52.cell? ⟨gb413, 0, none⟩ = some (.slice none 0 0) := (aA BK413.out 0).trans rfl; have hcz54_1 : w52.cell? ⟨gb413, 1, none⟩ = some (.slice none 0 0) := (aA BK413.out 1).trans rfl; have hfz54_0 := aC BK413.out 0; have hfz54_1 := aC BK413.out 1; obtain ⟨Ao55, co55, eo55⟩ := Kd.V_slice HO438.out; subst eo55))
             refine cF (results_cell_row rfl _ _ gb413 94 #[.slice Ao53 t433.length co53, .slice Ao55 t436.length co55] (0, 0) _ rfl (by refine bV (cs := #[.slice Ao53 t433.length co53, .slice none 0 0]) ?_ 1 _ rfl; refine bV (cs := #[.slice none 0 0, .slice none 0 0]) ?_ 0 _ rfl; exact BK413.out) Try.underlying94 rfl (by kernel_rfl)) rfl ?_
             exact ⟨_, _, by first | rfl | (simp [*, errW_none, errW_some] <;> rfl), by exact bK (bD (p := ⟨gb413, 1, none⟩) (bD (p := ⟨gb413, 0, none⟩) (bK HO435.out (fun k_ hk => (⟨hk, hk.2.2⟩ : _ ∧ k_ ≠ gb413))) (fun _ hk => hk.2) (.slice Ao53 t433.length co53)) (fun _ hk => hk.2) (.slice Ao55 t436.length co55)) (fun _ hk => hk.1.1), by exact bK (bD (p := ⟨gb413, 1, none⟩) (bD (p := ⟨gb413, 0, none⟩) (bK HO438.out (fun k_ hk => (⟨hk, hk.2.2⟩ : _ ∧ k_ ≠ gb413))) (fun _ hk => hk.2) (.slice Ao53 t433.length co53)) (fun _ hk => hk.2) (.slice Ao55 t436.length co55)) (fun _ hk => hk.1.1), by repeat (first | (with_reducible first | exact HB.out | refine bS ?_ GE413.out))⟩
            ·rw [if_neg c39] at H
             exact absurd H (by simp)
           ·rw [if_neg c37] at H
            exact absurd H (by simp)
          ·rw [if_neg c36] at H
           exact absurd H (by simp)
         ·rw [if_neg c34] at H
          have c34b0 : ((rdOf false l0_0 (ji28)) == (rdOf false l0_1 (ji31))) = false := by simpa using c34
          (try (have c34b1 : decide ((rdOf false l0_0 (ji28)) = (rdOf false l0_1 (ji31))) = false := by simpa using c34))
          (try (have c34b2 : ((rdOf false l0_0 (ji28)) == (rdOf false l0_1 (ji31))) = false := by simpa using c34))
          (try (have c34b3 : ¬ ((rdOf false l0_0 (ji28)) = (rdOf false l0_1 (ji31))) := by simpa using c34))
          clear c34
          simp only [aV, aW] at H
          obtain ⟨rfl, rfl⟩ := H
          have hcz57_0 : wr.cell? ⟨gb412, 0, none⟩ = some (.slice A0_0 l0_0.length c0_0) := (aA BK412.out 0).trans rfl
          have hcz57_1 : wr.cell? ⟨gb412, 1, none⟩ = some (.slice A0_1 l0_1.length c0_1) := (aA BK412.out 1).trans rfl
          try go_wp2
          replace HO_413000 := aM (vD HO_413000.out)
          replace HO_413001 := aM (vD HO_413001.out)
          replace BK412 := aM (kD BK412.out)
          replace BK413 := aM (kD BK413.out)
          replace HB := aM (b1 HB.out)
          have p414 : 0 ≤ ((ji28) : Int) := aJ (by (with_reducible assumption))
          have q414 : (ji28) < (l0_0.length : Int) := aJ (by (with_reducible assumption))
          obtain ⟨ad414, e414, hx414_0⟩ := Kd.at_bool (Kd.V_reads' HO_413000.out).2.2 (ji28) p414 q414
          cases e414
          replace p414 := eq_true p414
          replace q414 := eq_true q414
          have p415 : 0 ≤ ((ji31) : Int) := aJ (by (with_reducible assumption))
          have q415 : (ji31) < (l0_1.length : Int) := aJ (by (with_reducible assumption))
          obtain ⟨ad415, e415, hx415_0⟩ := Kd.at_bool (Kd.V_reads' HO_413001.out).2.2 (ji31) p415 q415
          cases e415
          replace p415 := eq_true p415
          replace q415 := eq_true q415
          go_region
          generalize wr.drew = w58 at HO_413000 HO_413001 BK412 BK413 HB hx414_0 hx415_0 ⊢
          have hcz59_0 : w58.cell? ⟨gb412, 0, none⟩ = some (.slice (some ad414) l0_0.length c0_0) := (aA BK412.out 0).trans rfl
          have hcz59_1 : w58.cell? ⟨gb412, 1, none⟩ = some (.slice (some ad415) l0_1.length c0_1) := (aA BK412.out 1).trans rfl
          have hcz60_0 : w58.cell? ⟨gb413, 0, none⟩ = some (.slice none 0 0) := (aA BK413.out 0).trans rfl
          have hcz60_1 : w58.cell? ⟨gb413, 1, none⟩ = some (.slice none 0 0) := (aA BK413.out 1).trans rfl
          have hfz60_0 := aC BK413.out 0
          have hfz60_1 := aC BK413.out 1
          try go_wp2
          refine cF (results_cell_row rfl _ _ gb413 94 #[.slice (some ad414) l0_0.length c0_0, .slice (some ad415) l0_1.length c0_1] (0, 0) _ rfl (by refine bV (cs := #[.slice (some ad414) l0_0.length c0_0, .slice none 0 0]) ?_ 1 _ rfl; refine bV (cs := #[.slice none 0 0, .slice none 0 0]) ?_ 0 _ rfl; exact BK413.out) Try.underlying94 rfl (by kernel_rfl)) rfl ?_
          exact ⟨_, _, by first | rfl | (simp [*, errW_none, errW_some] <;> rfl), by exact bK (bD (p := ⟨gb413, 1, none⟩) (bD (p := ⟨gb413, 0, none⟩) (bK HO_413000.out (fun k_ hk => (⟨hk, hk.2.2⟩ : _ ∧ k_ ≠ gb413))) (fun _ hk => hk.2) (.slice (some ad414) l0_0.length c0_0)) (fun _ hk => hk.2) (.slice (some ad415) l0_1.length c0_1)) (fun _ hk => hk.1.1), by exact bK (bD (p := ⟨gb413, 1, none⟩) (bD (p := ⟨gb413, 0, none⟩) (bK HO_413001.out (fun k_ hk => (⟨hk, hk.2.2⟩ : _ ∧ k_ ≠ gb413))) (fun _ hk => hk.2) (.slice (some ad414) l0_0.length c0_0)) (fun _ hk => hk.2) (.slice (some ad415) l0_1.length c0_1)) (fun _ hk => hk.1.1), by repeat (first | (with_reducible first | exact HB.out | refine bS ?_ GE413.out))⟩
        ·rw [if_neg c33] at H
         exact absurd H (by simp)
       ·rw [if_neg c32] at H
        exact absurd H (by simp)
      ·rw [if_neg c30] at H
       exact absurd H (by simp)
     ·rw [if_neg c29] at H
      exact absurd H (by simp)
    ·rw [if_neg c27] at H
     have c27b1 : decide (0 < l0_0.length) = false := aK (by omega)
     clear c27
     simp only [aV, aW] at H
     obtain ⟨rfl, rfl⟩ := H
     have hcz62_0 : wr.cell? ⟨gb412, 0, none⟩ = some (.slice A0_0 l0_0.length c0_0) := (aA BK412.out 0).trans rfl
     try go_wp2
     replace HO_413000 := aM (vD HO_413000.out)
     replace HO_413001 := aM (vD HO_413001.out)
     replace BK412 := aM (kD BK412.out)
     replace BK413 := aM (kD BK413.out)
     replace HB := aM (b1 HB.out)
     go_region
     generalize wr.drew = w63 at HO_413000 HO_413001 BK412 BK413 HB ⊢
     have hcz64_0 : w63.cell? ⟨gb412, 0, none⟩ = some (.slice A0_0 l0_0.length c0_0) := (aA BK412.out 0).trans rfl
     have hcz64_1 : w63.cell? ⟨gb412, 1, none⟩ = some (.slice A0_1 l0_1.length c0_1) := (aA BK412.out 1).trans rfl
     have hcz65_0 : w63.cell? ⟨gb413, 0, none⟩ = some (.slice none 0 0) := (aA BK413.out 0).trans rfl
     have hcz65_1 : w63.cell? ⟨gb413, 1, none⟩ = some (.slice none 0 0) := (aA BK413.out 1).trans rfl
     have hfz65_0 := aC BK413.out 0
     have hfz65_1 := aC BK413.out 1
     try go_wp2
     refine cF (results_cell_row rfl _ _ gb413 94 #[.slice A0_0 l0_0.length c0_0, .slice A0_1 l0_1.length c0_1] (0, 0) _ rfl (by refine bV (cs := #[.slice A0_0 l0_0.length c0_0, .slice none 0 0]) ?_ 1 _ rfl; refine bV (cs := #[.slice none 0 0, .slice none 0 0]) ?_ 0 _ rfl; exact BK413.out) Try.underlying94 rfl (by kernel_rfl)) rfl ?_
     exact ⟨_, _, by first | rfl | (simp [*, errW_none, errW_some] <;> rfl), by exact bK (bD (p := ⟨gb413, 1, none⟩) (bD (p := ⟨gb413, 0, none⟩) (bK HO_413000.out (fun k_ hk => (⟨hk, hk.2.2⟩ : _ ∧ k_ ≠ gb413))) (fun _ hk => hk.2) (.slice A0_0 l0_0.length c0_0)) (fun _ hk => hk.2) (.slice A0_1 l0_1.length c0_1)) (fun _ hk => hk.1.1), by exact bK (bD (p := ⟨gb413, 1, none⟩) (bD (p := ⟨gb413, 0, none⟩) (bK HO_413001.out (fun k_ hk => (⟨hk, hk.2.2⟩ : _ ∧ k_ ≠ gb413))) (fun _ hk => hk.2) (.slice A0_0 l0_0.length c0_0)) (fun _ hk => hk.2) (.slice A0_1 l0_1.length c0_1)) (fun _ hk => hk.1.1), by repeat (first | (with_reducible first | exact HB.out | refine bS ?_ GE413.out))⟩


def spec_l4Small.f (k : Nat) (a0 : ByteArray) : Option (List Bool × List Bool × Bool) := (spec_l1Read.f k a0).bind fun bt453 => (if bt453.2.2 = true then ((spec_l1Less.f k bt453.1 bt453.2.1).bind fun bt461 => (if (bt461.1.length : Int) ≤ 8 then (some (bt461.1, bt461.2, decide ((bt461.2.length : Int) ≤ 8))) else (some (bt461.1, bt461.2, false)))) else (some (bt453.1, bt453.2.1, false)))
def spec_l4Small.T5 : Bool × List (List Nat × List Nat) := (true, [([], []), ([], []), ([1], [1]), ([2], [2]), ([3], [3]), ([4], [4]), ([5], [5]), ([6, 5], [5, 6]), ([7, 5], [5, 7]), ([8, 5], [5, 8]), ([5, 9], [5, 9]), ([0, 5, 0], [0]), ([10, 11, 0, 1, 2, 3, 4, 5, 6, 7, 8, 9, 10, 11], [10])])
def spec_l4Small.B5 : List Nat := [0, 0, 2, 6, 14, 30, 62, 126, 254, 510, 1022, 63, 4095]
theorem spec_l4Small.tab5 : rtab .any (opsOf Try.f74 5) = spec_l4Small.T5 := by kernel_rfl
theorem spec_l4Small.bits5 : waitsOk spec_l4Small.T5.2 spec_l4Small.B5 = true := by kernel_rfl
set_option maxHeartbeats 8000000 in
set_option maxRecDepth 100000 in
theorem spec_l4Small.calls (k : Nat) (a0 : ByteArray) (r1 : List Bool) (r2 : List Bool) (r3 : Bool) (w : World) (h : spec_l4Small.f k a0 = some (r1, r2, r3)) :
  Calls Try.prog 74 #[.string a0] w fun e w' => ∃ v0_ v1_ : Value, e = .returned (.tuple #[.agg #[v0_, v1_], .bool r3]) ∧ Kd.V Kd.bool 4 w' w.heap.size (fun k_ => (w.heap.size ≤ k_)) v0_ r1 ∧ Kd.V Kd.bool 4 w' w.heap.size (fun k_ => (w.heap.size ≤ k_)) v1_ r2 ∧ Below w.heap.size w w' := by
 have HB := aM (cE w.heap.size w)
 have H : ((spec_l1Read.f k a0).bind fun bt453 => (if bt453.2.2 = true then ((spec_l1Less.f k bt453.1 bt453.2.1).bind fun bt461 => (if (bt461.1.length : Int) ≤ 8 then (some (bt461.1, bt461.2, decide ((bt461.2.length : Int) ≤ 8))) else (some (bt461.1, bt461.2, false)))) else (some (bt453.1, bt453.2.1, false)))) = some (r1, r2, r3) := h
 clear h
 replace H := Option.bind_eq_some_iff.mp H
 obtain ⟨⟨t453, t456, t459⟩, A20, H⟩ := H
 replace H : (if t459 = true then ((spec_l1Less.f k t453 t456).bind fun bt461 => (if (bt461.1.length : Int) ≤ 8 then (some (bt461.1, bt461.2, decide ((bt461.2.length : Int) ≤ 8))) else (some (bt461.1, bt461.2, false)))) else (some (t453, t456, false))) = some (r1, r2, r3) := H
 have A2 := aM A20
 clear A20
 by_cases c3 : t459 = true
 ·subst c3
  replace H : ((spec_l1Less.f k t453 t456).bind fun bt461 => (if (bt461.1.length : Int) ≤ 8 then (some (bt461.1, bt461.2, decide ((bt461.2.length : Int) ≤ 8))) else (some (bt461.1, bt461.2, false)))) = some (r1, r2, r3) := by rw [if_pos rfl] at H; exact H
  replace H := Option.bind_eq_some_iff.mp H
  obtain ⟨⟨t461, t464⟩, A40, H⟩ := H
  replace H : (if (t461.length : Int) ≤ 8 then (some (t461, t464, decide ((t464.length : Int) ≤ 8))) else (some (t461, t464, false))) = some (r1, r2, r3) := H
  have A4 := aM A40
  clear A40
  by_cases c5 : (t461.length : Int) ≤ 8
  all_goals
   first
   |rw [if_pos c5] at H
    have c5b0 : decide ((t461.length : Int) ≤ 8) = true := aH c5
   |rw [if_neg c5] at H
    have c5b0 : decide ((t461.length : Int) ≤ 8) = false := aK c5
   clear c5
   simp only [aV, aW] at H
   obtain ⟨rfl, rfl, rfl⟩ := H
   go_enter Try.func74, Try.ntmps74
   try go_wp2_with (first | ((with_reducible refine aZ (N := 2) rfl ?_); (try (refine gate_guard (by rfl) ?_; dsimp only)); refine bB ?hg (N := 2) ?hd (cs := #[.slice none 0 0, .slice none 0 0]) (t := 94) ?hr ?_; (case hd => rfl); (case hg => rfl); (case hr => first | (go_simp; done)); intro gb452 hg w6 hbox hb; have BK452 := aM hbox; have GE452 := aM ((by rw [hg]; exact (aG HB.out) : w.heap.size ≤ gb452)); replace HB := aM (aE HB.out hb); clear hb hbox hg) | ((with_reducible refine aY (f := 91) rfl ?_); refine gL 9 Try.func91 #[.string a0] ?_; (with_reducible refine (spec_l1Read.calls k a0 t453 t456 true _ A2.out).mono ?_); rintro e w7 ⟨v454, v457, rfl, ho0, ho1, hb⟩; refine ⟨_, rfl, ?_⟩; have HO455 := aM (bP (Kd.R_newM (M := fun k_ => (w.heap.size ≤ k_)) ho0 (aG HB.out) (fun k_ h_ => h_)) (aG HB.out)); have HO458 := aM (bP (Kd.R_newM (M := fun k_ => (w.heap.size ≤ k_)) ho1 (aG HB.out) (fun k_ h_ => h_)) (aG HB.out)); replace BK452 := aM (aD (g := gb452) (o := .cells #[.slice none 0 0, .slice none 0 0] 94 (0, 0)) BK452.out hb); replace HB := aM (aE HB.out hb); (try clear hb); (try clear ho0); (try clear ho1)) | ((with_reducible refine aZ (N := 4) rfl ?_); (try (refine gate_guard (by rfl) ?_; dsimp only)); refine bB ?hg (N := 4) ?hd (cs := #[.slice none 0 0, .slice none 0 0]) (t := 94) ?hr ?_; (case hd => rfl); (case hg => rfl); (case hr => first | (go_simp; done)); intro gb460 hg w8 hbox hb; replace HO455 := aM (bG HO455.out hb); replace HO458 := aM (bG HO458.out hb); have BK460 := aM hbox; have GE460 := aM ((by rw [hg]; exact (aG HB.out) : w.heap.size ≤ gb460)); replace HB := aM (aE HB.out hb); have NB452_460 := aM ((by rw [hg]; exact Nat.ne_of_lt (blk_lt (g := gb452) (o := .cells #[.slice none 0 0, .slice none 0 0] 94 (0, 0)) BK452.out) : gb452 ≠ gb460)); replace BK452 := aM (aD (g := gb452) (o := .cells #[.slice none 0 0, .slice none 0 0] 94 (0, 0)) BK452.out hb); clear hb hbox hg; obtain ⟨Ao9, co9, eo9⟩ := bL HO455.out; subst eo9; have hcz11_0 : w8.cell? ⟨gb460, 0, none⟩ = some (.slice none 0 0) := (aA BK460.out 0).trans rfl; have hcz11_1 : w8.cell? ⟨gb460, 1, none⟩ = some (.slice none 0 0) := (aA BK460.out 1).trans rfl; have hfz11_0 := aC BK460.out 0; have hfz11_1 := aC BK460.out 1; obtain ⟨Ao12, co12, eo12⟩ := bL HO458.out; subst eo12) | ((with_reducible refine gate_store (t := 94) (p := 4) rfl ?_); refine store_event (t := 94) (p := 4) (v := ?vo_w13) (w1 := ((w8.setCell ⟨gb460, 0, none⟩ (.slice Ao9 t453.length co9)).setCell ⟨gb460, 1, none⟩ (.slice Ao12 t456.length co12))) ?hg ?ho ?hn ?hr ?_; (case ho => rfl); (case hg => rfl); (case hn => rfl); (case hr => first | (go_simp; done)); intro w13 hw; have n0_ : Aside0 (Kd.R Kd.bool 4 w13 w.heap.size (fun k_ => (w.heap.size ≤ k_) ∧ some k_ ≠ (.slice Ao12 t456.length co12 : Value).ownBlock) (.slice Ao9 t453.length co9) t453) := ⟨(by rw [hw]; exact (by exact bJ (bC (p := ⟨gb460, 1, none⟩) (bC (p := ⟨gb460, 0, none⟩) (bE HO455.out BK460.out (by decide)) (fun _ hk => hk.2) (.slice Ao9 t453.length co9)) (fun _ hk => hk.2) (.slice Ao12 t456.length co12)) (fun _ hk => ⟨hk.1.1, hk.1.2⟩)))⟩; have n1_ : Aside0 (Kd.R Kd.bool 4 w13 w.heap.size (fun k_ => (w.heap.size ≤ k_) ∧ some k_ ≠ (.slice Ao9 t453.length co9 : Value).ownBlock) (.slice Ao12 t456.length co12) t456) := ⟨(by rw [hw]; exact (by exact bJ (bC (p := ⟨gb460, 1, none⟩) (bC (p := ⟨gb460, 0, none⟩) (bE HO458.out BK460.out (by decide)) (fun _ hk => hk.2) (.slice Ao9 t453.length co9)) (fun _ hk => hk.2) (.slice Ao12 t456.length co12)) (fun _ hk => ⟨hk.1.1, hk.1.2⟩)))⟩; have n2_ : Aside0 (w13.heap[gb452]? = some (.cells #[.slice none 0 0, .slice none 0 0] 94 (0, 0))) := ⟨(by rw [hw]; exact (by refine cL ?_ NB452_460.out _; refine cL ?_ NB452_460.out _; exact BK452.out))⟩; have n3_ : Aside0 (w13.heap[gb460]? = some (.cells #[.slice Ao9 t453.length co9, .slice Ao12 t456.length co12] 94 (0, 0))) := ⟨(by rw [hw]; exact (by refine bV (cs := #[.slice Ao9 t453.length co9, .slice none 0 0]) ?_ 1 _ rfl; refine bV (cs := #[.slice none 0 0, .slice none 0 0]) ?_ 0 _ rfl; exact BK460.out))⟩; have n4_ : Aside0 (Below w.heap.size w w13) := ⟨(by rw [hw]; exact (by repeat (first | (with_reducible first | exact HB.out | refine bS ?_ GE460.out))))⟩; clear hw; clear HO455; clear HO458; clear BK452; clear BK460; clear HB; have HO455 := n0_; have HO458 := n1_; have BK452 := n2_; have BK460 := n3_; have HB := n4_; clear n0_ n1_ n2_ n3_ n4_; have hcz14_0 : w13.cell? ⟨gb460, 0, none⟩ = some (.slice Ao9 t453.length co9) := (aA BK460.out 0).trans rfl; have hcz14_1 : w13.cell? ⟨gb460, 1, none⟩ = some (.slice Ao12 t456.length co12) := (aA BK460.out 1).trans rfl) | ((with_reducible refine aY (f := 92) rfl ?_); refine gL 16 Try.func92 #[.agg #[.slice Ao9 t453.length co9, .slice Ao12 t456.length co12]] ?_; (with_reducible refine (spec_l1Less.calls k (fun k_ => some k_ = (.slice Ao9 t453.length co9 : Value).ownBlock) _ _ t453 (fun k_ => some k_ = (.slice Ao12 t456.length co12 : Value).ownBlock) _ _ t456 t461 t464 _ ?side1 ?side2 A4.out).mono ?_); (case side1 => exact Kd.R_V (Kd.R_tight rfl (bE (bE (HO455.out) BK452.out (by decide)) BK460.out (by decide)))); (case side2 => exact Kd.R_V (Kd.R_tight rfl (bE (bE (HO458.out) BK452.out (by decide)) BK460.out (by decide)))); rintro e w15 ⟨v462, v465, rfl, ho0, ho1, hb⟩; refine ⟨_, rfl, ?_⟩; have HO463 := aM (bQ (bK (ok' := fun k_ => (w.heap.size ≤ k_) ∧ k_ ≠ gb452 ∧ k_ ≠ gb460) ho0 (fun k_ hk_ => ⟨Or.elim hk_ (fun hs_ => Or.elim hs_ (fun hs_ => ((bE (bE (HO455.out) BK452.out (by decide)) BK460.out (by decide)).1 k_ hs_.symm).1.1.1) (fun hs_ => ((bE (bE (HO458.out) BK452.out (by decide)) BK460.out (by decide)).1 k_ hs_.symm).1.1.1)) (fun hn_ => (Nat.le_trans (aG HB.out) hn_)), Or.elim hk_ (fun hs_ => Or.elim hs_ (fun hs_ => ((bE (bE (HO455.out) BK452.out (by decide)) BK460.out (by decide)).1 k_ hs_.symm).1.2) (fun hs_ => ((bE (bE (HO458.out) BK452.out (by decide)) BK460.out (by decide)).1 k_ hs_.symm).1.2)) (fun hn_ => (Kd.freshB (g := gb452) (o := .cells #[.slice none 0 0, .slice none 0 0] 94 (0, 0)) BK452.out k_ hn_)), Or.elim hk_ (fun hs_ => Or.elim hs_ (fun hs_ => ((bE (bE (HO455.out) BK452.out (by decide)) BK460.out (by decide)).1 k_ hs_.symm).2) (fun hs_ => ((bE (bE (HO458.out) BK452.out (by decide)) BK460.out (by decide)).1 k_ hs_.symm).2)) (fun hn_ => (Kd.freshB (g := gb460) (o := .cells #[.slice Ao9 t453.length co9, .slice Ao12 t456.length co12] 94 (0, 0)) BK460.out k_ hn_))⟩)) (aG HB.out)); have HO466 := aM (bQ (bK (ok' := fun k_ => (w.heap.size ≤ k_) ∧ k_ ≠ gb452 ∧ k_ ≠ gb460) ho1 (fun k_ hk_ => ⟨Or.elim hk_ (fun hs_ => Or.elim hs_ (fun hs_ => ((bE (bE (HO455.out) BK452.out (by decide)) BK460.out (by decide)).1 k_ hs_.symm).1.1.1) (fun hs_ => ((bE (bE (HO458.out) BK452.out (by decide)) BK460.out (by decide)).1 k_ hs_.symm).1.1.1)) (fun hn_ => (Nat.le_trans (aG HB.out) hn_)), Or.elim hk_ (fun hs_ => Or.elim hs_ (fun hs_ => ((bE (bE (HO455.out) BK452.out (by decide)) BK460.out (by decide)).1 k_ hs_.symm).1.2) (fun hs_ => ((bE (bE (HO458.out) BK452.out (by decide)) BK460.out (by decide)).1 k_ hs_.symm).1.2)) (fun hn_ => (Kd.freshB (g := gb452) (o := .cells #[.slice none 0 0, .slice none 0 0] 94 (0, 0)) BK452.out k_ hn_)), Or.elim hk_ (fun hs_ => Or.elim hs_ (fun hs_ => ((bE (bE (HO455.out) BK452.out (by decide)) BK460.out (by decide)).1 k_ hs_.symm).2) (fun hs_ => ((bE (bE (HO458.out) BK452.out (by decide)) BK460.out (by decide)).1 k_ hs_.symm).2)) (fun hn_ => (Kd.freshB (g := gb460) (o := .cells #[.slice Ao9 t453.length co9, .slice Ao12 t456.length co12] 94 (0, 0)) BK460.out k_ hn_))⟩)) (aG HB.out)); replace HO455 := aM (bG HO455.out hb); replace HO458 := aM (bG HO458.out hb); replace BK452 := aM (aD (g := gb452) (o := .cells #[.slice none 0 0, .slice none 0 0] 94 (0, 0)) BK452.out hb); replace BK460 := aM (aD (g := gb460) (o := .cells #[.slice Ao9 t453.length co9, .slice Ao12 t456.length co12] 94 (0, 0)) BK460.out hb); replace HB := aM (aE HB.out hb); (try clear hb); (try clear ho0); (try clear ho1)) | ((with_reducible refine aZ (N := 6) rfl ?_); (try (refine gate_guard (by rfl) ?_; dsimp only)); refine bB ?hg (N := 6) ?hd (cs := #[.slice none 0 0, .slice none 0 0]) (t := 94) ?hr ?_; (case hd => rfl); (case hg => rfl); (case hr => first | (go_simp; done)); intro gb467 hg w16 hbox hb; replace HO455 := aM (bG HO455.out hb); replace HO458 := aM (bG HO458.out hb); replace HO463 := aM (bH (Kd.V_elderB HO463.out gb467 (Nat.le_of_eq hg.symm)) hb); replace HO466 := aM (bH (Kd.V_elderB HO466.out gb467 (Nat.le_of_eq hg.symm)) hb); have BK467 := aM hbox; have GE467 := aM ((by rw [hg]; exact (aG HB.out) : w.heap.size ≤ gb467)); replace HB := aM (aE HB.out hb); have NB452_467 := aM ((by rw [hg]; exact Nat.ne_of_lt (blk_lt (g := gb452) (o := .cells #[.slice none 0 0, .slice none 0 0] 94 (0, 0)) BK452.out) : gb452 ≠ gb467)); have NB467_452 := aM ((by rw [hg]; exact Nat.ne_of_gt (blk_lt (g := gb452) (o := .cells #[.slice none 0 0, .slice none 0 0] 94 (0, 0)) BK452.out) : gb467 ≠ gb452)); replace BK452 := aM (aD (g := gb452) (o := .cells #[.slice none 0 0, .slice none 0 0] 94 (0, 0)) BK452.out hb); have NB460_467 := aM ((by rw [hg]; exact Nat.ne_of_lt (blk_lt (g := gb460) (o := .cells #[.slice Ao9 t453.length co9, .slice Ao12 t456.length co12] 94 (0, 0)) BK460.out) : gb460 ≠ gb467)); replace BK460 := aM (aD (g := gb460) (o := .cells #[.slice Ao9 t453.length co9, .slice Ao12 t456.length co12] 94 (0, 0)) BK460.out hb); clear hb hbox hg; obtain ⟨Ao17, co17, eo17⟩ := Kd.V_slice HO463.out; subst eo17; have hcz20_0 : w16.cell? ⟨gb467, 0, none⟩ = some (.slice none 0 0) := (aA BK467.out 0).trans rfl; have hcz20_1 : w16.cell? ⟨gb467, 1, none⟩ = some (.slice none 0 0) := (aA BK467.out 1).trans rfl; have hfz20_0 := aC BK467.out 0; have hfz20_1 := aC BK467.out 1; obtain ⟨Ao21, co21, eo21⟩ := Kd.V_slice HO466.out; subst eo21))
   have n0_ : Aside0 (Kd.R Kd.bool 4 ((w16.setCell ⟨gb467, 0, none⟩ (.slice Ao17 t461.length co17)).setCell ⟨gb467, 1, none⟩ (.slice Ao21 t464.length co21)) w.heap.size (fun k_ => (w.heap.size ≤ k_) ∧ some k_ ≠ (.slice Ao12 t456.length co12 : Value).ownBlock) (.slice Ao9 t453.length co9) t453) := ⟨by exact bJ (bC (p := ⟨gb467, 1, none⟩) (bC (p := ⟨gb467, 0, none⟩) (bE HO455.out BK467.out (by decide)) (fun _ hk => hk.2) (.slice Ao17 t461.length co17)) (fun _ hk => hk.2) (.slice Ao21 t464.length co21)) (fun _ hk => ⟨hk.1.1, hk.1.2⟩)⟩
   have n1_ : Aside0 (Kd.R Kd.bool 4 ((w16.setCell ⟨gb467, 0, none⟩ (.slice Ao17 t461.length co17)).setCell ⟨gb467, 1, none⟩ (.slice Ao21 t464.length co21)) w.heap.size (fun k_ => (w.heap.size ≤ k_) ∧ some k_ ≠ (.slice Ao9 t453.length co9 : Value).ownBlock) (.slice Ao12 t456.length co12) t456) := ⟨by exact bJ (bC (p := ⟨gb467, 1, none⟩) (bC (p := ⟨gb467, 0, none⟩) (bE HO458.out BK467.out (by decide)) (fun _ hk => hk.2) (.slice Ao17 t461.length co17)) (fun _ hk => hk.2) (.slice Ao21 t464.length co21)) (fun _ hk => ⟨hk.1.1, hk.1.2⟩)⟩
   have n2_ : Aside0 (Kd.V Kd.bool 4 ((w16.setCell ⟨gb467, 0, none⟩ (.slice Ao17 t461.length co17)).setCell ⟨gb467, 1, none⟩ (.slice Ao21 t464.length co21)) w.heap.size (fun k_ => (w.heap.size ≤ k_) ∧ k_ ≠ gb452 ∧ k_ ≠ gb460 ∧ k_ ≠ gb467) (.slice Ao17 t461.length co17) t461) := ⟨by exact bK (bD (p := ⟨gb467, 1, none⟩) (bD (p := ⟨gb467, 0, none⟩) (bK HO463.out (fun k_ hk => (⟨hk, hk.2⟩ : _ ∧ k_ ≠ gb467))) (fun _ hk => hk.2) (.slice Ao17 t461.length co17)) (fun _ hk => hk.2) (.slice Ao21 t464.length co21)) (fun _ hk => ⟨hk.1.1.1, ⟨hk.1.1.2.1, ⟨hk.1.1.2.2, hk.1.2⟩⟩⟩)⟩
   have n3_ : Aside0 (Kd.V Kd.bool 4 ((w16.setCell ⟨gb467, 0, none⟩ (.slice Ao17 t461.length co17)).setCell ⟨gb467, 1, none⟩ (.slice Ao21 t464.length co21)) w.heap.size (fun k_ => (w.heap.size ≤ k_) ∧ k_ ≠ gb452 ∧ k_ ≠ gb460 ∧ k_ ≠ gb467) (.slice Ao21 t464.length co21) t464) := ⟨by exact bK (bD (p := ⟨gb467, 1, none⟩) (bD (p := ⟨gb467, 0, none⟩) (bK HO466.out (fun k_ hk => (⟨hk, hk.2⟩ : _ ∧ k_ ≠ gb467))) (fun _ hk => hk.2) (.slice Ao17 t461.length co17)) (fun _ hk => hk.2) (.slice Ao21 t464.length co21)) (fun _ hk => ⟨hk.1.1.1, ⟨hk.1.1.2.1, ⟨hk.1.1.2.2, hk.1.2⟩⟩⟩)⟩
   have n4_ : Aside0 (((w16.setCell ⟨gb467, 0, none⟩ (.slice Ao17 t461.length co17)).setCell ⟨gb467, 1, none⟩ (.slice Ao21 t464.length co21)).heap[gb452]? = some (.cells #[.slice none 0 0, .slice none 0 0] 94 (0, 0))) := ⟨by refine cL ?_ NB452_467.out _; refine cL ?_ NB452_467.out _; exact BK452.out⟩
   have n5_ : Aside0 (((w16.setCell ⟨gb467, 0, none⟩ (.slice Ao17 t461.length co17)).setCell ⟨gb467, 1, none⟩ (.slice Ao21 t464.length co21)).heap[gb460]? = some (.cells #[.slice Ao9 t453.length co9, .slice Ao12 t456.length co12] 94 (0, 0))) := ⟨by refine cL ?_ NB460_467.out _; refine cL ?_ NB460_467.out _; exact BK460.out⟩
   have n6_ : Aside0 (((w16.setCell ⟨gb467, 0, none⟩ (.slice Ao17 t461.length co17)).setCell ⟨gb467, 1, none⟩ (.slice Ao21 t464.length co21)).heap[gb467]? = some (.cells #[.slice Ao17 t461.length co17, .slice Ao21 t464.length co21] 94 (0, 0))) := ⟨by refine bV (cs := #[.slice Ao17 t461.length co17, .slice none 0 0]) ?_ 1 _ rfl; refine bV (cs := #[.slice none 0 0, .slice none 0 0]) ?_ 0 _ rfl; exact BK467.out⟩
   have n7_ : Aside0 (Below w.heap.size w ((w16.setCell ⟨gb467, 0, none⟩ (.slice Ao17 t461.length co17)).setCell ⟨gb467, 1, none⟩ (.slice Ao21 t464.length co21))) := ⟨by repeat (first | (with_reducible first | exact HB.out | refine bS ?_ GE467.out))⟩
   (try clear HO455)
   (try clear HO458)
   (try clear HO463)
   (try clear HO466)
   (try clear BK452)
   (try clear BK460)
   (try clear BK467)
   (try clear HB)
   generalize ((w16.setCell ⟨gb467, 0, none⟩ (.slice Ao17 t461.length co17)).setCell ⟨gb467, 1, none⟩ (.slice Ao21 t464.length co21)) = w22 at n0_ n1_ n2_ n3_ n4_ n5_ n6_ n7_ ⊢
   have HO455 := n0_
   have HO458 := n1_
   have HO463 := n2_
   have HO466 := n3_
   have BK452 := n4_
   have BK460 := n5_
   have BK467 := n6_
   have HB := n7_
   clear n0_ n1_ n2_ n3_ n4_ n5_ n6_ n7_
   replace HO455 := aM (rD HO455.out)
   replace HO458 := aM (rD HO458.out)
   replace HO463 := aM (vD HO463.out)
   replace HO466 := aM (vD HO466.out)
   replace BK452 := aM (kD BK452.out)
   replace BK460 := aM (kD BK460.out)
   replace BK467 := aM (kD BK467.out)
   replace HB := aM (b1 HB.out)
   refine start_ (n := 13) (S := fun w' => w'.cell? ⟨gb467, 0, none⟩ = some (.slice Ao17 t461.length co17) ∧ w'.cell? ⟨gb467, 1, none⟩ = some (.slice Ao21 t464.length co21)) (ds := []) #[false, false, false, false, false, false, false, false, false, false, false, false, false] (by kernel_rfl) rfl rfl ⟨(aA BK467.out 0).trans rfl, (aA BK467.out 1).trans rfl⟩ (fun hHeld => ?_); refine with_tabW spec_l4Small.tab5 spec_l4Small.bits5 (fun HT_ HW_ => ?_)
   generalize w22.drew = w23 at HO455 HO458 HO463 HO466 BK452 BK460 BK467 HB hHeld ⊢
   refine pQ 1 18 HT_ ?_
   refine tQ 0 17 HT_ HW_ hHeld ?_
   refine tQ 2 19 HT_ HW_ hHeld ?_
   refine pQ 3 20 HT_ ?_
   refine pQ 4 21 HT_ ?_
   refine pQ 5 22 HT_ ?_
   first
   |refine pure_ (i := 6) (N := some 23) (v := ?_) (a' := ?_) #[true, true, true, true, true, true, true, false, false, false, false, false, false] rfl rfl (any_of HT_.out (by kernel_rfl)) (fun _ _ _ h => h) (Or.inl ⟨by rfl, ?_⟩) ?_ ?_
    rotate_left
    ·intro w'
     go_simp
     with_reducible rfl
   |refine pure_ (i := 6) (N := some 23) (v := undef) (a' := ?_) #[true, true, true, true, true, true, true, false, false, false, false, false, false] rfl rfl (any_of HT_.out (by kernel_rfl)) (fun _ _ _ h => h) (Or.inr ⟨by rfl, rfl⟩) ?_ ?_
   rotate_left
   ·simp only [Act.put, sA, sZ, sS, cS, cT]
    rfl
   first
   |refine take_ (i := 7) (N := some 24) (v := ?_) (a' := ?_) #[true, true, true, true, true, true, true, true, false, false, false, false, false] rfl rfl (take_ofW HT_.out HW_.out (by kernel_rfl)) (fun _ _ _ h => h) (Or.inl ⟨by rfl, ?_⟩) hHeld ?_ ?_
    rotate_left
    ·rintro w' ⟨s0, s1⟩
     go_simp
     with_reducible rfl
   |refine pure_ (i := 7) (N := some 24) (v := undef) (a' := ?_) #[true, true, true, true, true, true, true, true, false, false, false, false, false] rfl rfl (any_of HT_.out (by kernel_rfl)) (fun _ _ _ h => h) (Or.inr ⟨by rfl, rfl⟩) ?_ ?_
   rotate_left
   ·simp only [Act.put, sA, sZ, sS, cS, cT]
    rfl
   first
   |refine pure_ (i := 8) (N := some 25) (v := ?_) (a' := ?_) #[true, true, true, true, true, true, true, true, true, false, false, false, false] rfl rfl (any_of HT_.out (by kernel_rfl)) (fun _ _ _ h => h) (Or.inl ⟨by rfl, ?_⟩) ?_ ?_
    rotate_left
    ·intro w'
     go_simp
     with_reducible rfl
   |refine pure_ (i := 8) (N := some 25) (v := undef) (a' := ?_) #[true, true, true, true, true, true, true, true, true, false, false, false, false] rfl rfl (any_of HT_.out (by kernel_rfl)) (fun _ _ _ h => h) (Or.inr ⟨by rfl, rfl⟩) ?_ ?_
   rotate_left
   ·simp only [Act.put, sA, sZ, sS, cS, cT]
    rfl
   first
   |refine pure_ (i := 9) (N := some 26) (v := ?_) (a' := ?_) #[true, true, true, true, true, true, true, true, true, true, false, false, false] rfl rfl (any_of HT_.out (by kernel_rfl)) (fun _ _ _ h => h) (Or.inl ⟨by rfl, ?_⟩) ?_ ?_
    rotate_left
    ·intro w'
     go_simp
     with_reducible rfl
   |refine pure_ (i := 9) (N := some 26) (v := undef) (a' := ?_) #[true, true, true, true, true, true, true, true, true, true, false, false, false] rfl rfl (any_of HT_.out (by kernel_rfl)) (fun _ _ _ h => h) (Or.inr ⟨by rfl, rfl⟩) ?_ ?_
   rotate_left
   ·simp only [Act.put, sA, sZ, sS, cS, cT]
    rfl
   refine pQ 10 27 HT_ ?_
   refine one_ (i := 11) (N := none) #[true, true, true, true, true, true, true, true, true, true, true, true, false] rfl rfl (one_of HT_.out (by kernel_rfl)) (by decide) (fun K hK => ?_)
   have hs24 : w23.cell? ⟨gb452, 0, none⟩ = some (.slice none 0 0) := (aA BK452.out 0).trans rfl
   have hfs24 := aC BK452.out 0
   have hs25 : w23.cell? ⟨gb452, 1, none⟩ = some (.slice none 0 0) := (aA BK452.out 1).trans rfl
   have hfs25 := aC BK452.out 1
   refine skip_ (w1 := ?_) (by rfl) rfl ?_ ?_
   rotate_left
   ·go_simp
    rfl
   refine hK.out _ _ ⟨((cell_far (p := ⟨gb452, _, none⟩) NB467_452.out _).trans (((cell_far (p := ⟨gb452, _, none⟩) NB467_452.out _).trans (hHeld.1)))), ((cell_far (p := ⟨gb452, _, none⟩) NB467_452.out _).trans (((cell_far (p := ⟨gb452, _, none⟩) NB467_452.out _).trans (hHeld.2))))⟩ (fun hHeld => ?_)
   clear hK K
   refine pQ 12 3 HT_ ?_
   refine done_ (done_of HT_.out (by kernel_rfl)) ?_
   try go_wp2
   refine cF (cG rfl _ _ gb452 94 #[.slice Ao17 t461.length co17, .slice Ao21 t464.length co21] (0, 0) _ rfl (by refine bV (cs := #[.slice Ao17 t461.length co17, .slice none 0 0]) ?_ 1 _ rfl; refine bV (cs := #[.slice none 0 0, .slice none 0 0]) ?_ 0 _ rfl; exact BK452.out) Try.underlying94 rfl (by kernel_rfl)) rfl ?_
   exact ⟨_, _, by first | rfl | (simp [*, errW_none, errW_some] <;> rfl), by exact bK (bD (p := ⟨gb452, 1, none⟩) (bD (p := ⟨gb452, 0, none⟩) (bK HO463.out (fun k_ hk => (⟨hk, hk.2.1⟩ : _ ∧ k_ ≠ gb452))) (fun _ hk => hk.2) (.slice Ao17 t461.length co17)) (fun _ hk => hk.2) (.slice Ao21 t464.length co21)) (fun _ hk => hk.1.1), by exact bK (bD (p := ⟨gb452, 1, none⟩) (bD (p := ⟨gb452, 0, none⟩) (bK HO466.out (fun k_ hk => (⟨hk, hk.2.1⟩ : _ ∧ k_ ≠ gb452))) (fun _ hk => hk.2) (.slice Ao17 t461.length co17)) (fun _ hk => hk.2) (.slice Ao21 t464.length co21)) (fun _ hk => hk.1.1), by repeat (first | (with_reducible first | exact HB.out | refine bS ?_ GE452.out))⟩
 ·replace c3 := Bool.eq_false_iff.mpr c3
  subst c3
  replace H : (some (t453, t456, false)) = some (r1, r2, r3) := by rw [if_neg (show ¬ (false = true) by decide)] at H; exact H
  simp only [aV, aW] at H
  obtain ⟨rfl, rfl, rfl⟩ := H
  go_enter Try.func74, Try.ntmps74
  go_wp2_with (first | ((with_reducible refine aZ (N := 2) rfl ?_); (try (refine gate_guard (by rfl) ?_; dsimp only)); refine bB ?hg (N := 2) ?hd (cs := #[.slice none 0 0, .slice none 0 0]) (t := 94) ?hr ?_; (case hd => rfl); (case hg => rfl); (case hr => first | (go_simp; done)); intro gb452 hg w46 hbox hb; have BK452 := aM hbox; have GE452 := aM ((by rw [hg]; exact (aG HB.out) : w.heap.size ≤ gb452)); replace HB := aM (aE HB.out hb); clear hb hbox hg) | ((with_reducible refine aY (f := 91) rfl ?_); refine gL 9 Try.func91 #[.string a0] ?_; (with_reducible refine (spec_l1Read.calls k a0 t453 t456 false _ A2.out).mono ?_); rintro e w47 ⟨v454, v457, rfl, ho0, ho1, hb⟩; refine ⟨_, rfl, ?_⟩; have HO455 := aM (bP (Kd.R_newM (M := fun k_ => (w.heap.size ≤ k_)) ho0 (aG HB.out) (fun k_ h_ => h_)) (aG HB.out)); have HO458 := aM (bP (Kd.R_newM (M := fun k_ => (w.heap.size ≤ k_)) ho1 (aG HB.out) (fun k_ h_ => h_)) (aG HB.out)); replace BK452 := aM (aD (g := gb452) (o := .cells #[.slice none 0 0, .slice none 0 0] 94 (0, 0)) BK452.out hb); replace HB := aM (aE HB.out hb); (try clear hb); (try clear ho0); (try clear ho1)) | ((with_reducible refine aZ (N := 4) rfl ?_); (try (refine gate_guard (by rfl) ?_; dsimp only)); refine bB ?hg (N := 4) ?hd (cs := #[.slice none 0 0, .slice none 0 0]) (t := 94) ?hr ?_; (case hd => rfl); (case hg => rfl); (case hr => first | (go_simp; done)); intro gb460 hg w48 hbox hb; replace HO455 := aM (bG HO455.out hb); replace HO458 := aM (bG HO458.out hb); have BK460 := aM hbox; have GE460 := aM ((by rw [hg]; exact (aG HB.out) : w.heap.size ≤ gb460)); replace HB := aM (aE HB.out hb); have NB452_460 := aM ((by rw [hg]; exact Nat.ne_of_lt (blk_lt (g := gb452) (o := .cells #[.slice none 0 0, .slice none 0 0] 94 (0, 0)) BK452.out) : gb452 ≠ gb460)); replace BK452 := aM (aD (g := gb452) (o := .cells #[.slice none 0 0, .slice none 0 0] 94 (0, 0)) BK452.out hb); clear hb hbox hg; obtain ⟨Ao49, co49, eo49⟩ := bL HO455.out; subst eo49; have hnc50 := NB452_460.out; have hcz51_0 : w48.cell? ⟨gb460, 0, none⟩ = some (.slice none 0 0) := (aA BK460.out 0).trans rfl; have hcz51_1 : w48.cell? ⟨gb460, 1, none⟩ = some (.slice none 0 0) := (aA BK460.out 1).trans rfl; have hfz51_0 := aC BK460.out 0; have hfz51_1 := aC BK460.out 1; obtain ⟨Ao52, co52, eo52⟩ := bL HO458.out; subst eo52; have hcz53_0 : w48.cell? ⟨gb452, 0, none⟩ = some (.slice none 0 0) := (aA BK452.out 0).trans rfl; have hcz53_1 : w48.cell? ⟨gb452, 1, none⟩ = some (.slice none 0 0) := (aA BK452.out 1).trans rfl; have hfz53_0 := aC BK452.out 0; have hfz53_1 := aC BK452.out 1))
  refine cF (cG rfl _ _ gb452 94 #[.slice Ao49 t453.length co49, .slice Ao52 t456.length co52] (0, 0) _ rfl (by refine bV (cs := #[.slice Ao49 t453.length co49, .slice none 0 0]) ?_ 1 _ rfl; refine bV (cs := #[.slice none 0 0, .slice none 0 0]) ?_ 0 _ rfl; refine cL ?_ NB452_460.out _; refine cL ?_ NB452_460.out _; exact BK452.out) Try.underlying94 rfl (by kernel_rfl)) rfl ?_
  exact ⟨_, _, by first | rfl | (simp [*, errW_none, errW_some] <;> rfl), Kd.R_V (by exact bJ (bC (p := ⟨gb452, 1, none⟩) (bC (p := ⟨gb452, 0, none⟩) (bC (p := ⟨gb460, 1, none⟩) (bC (p := ⟨gb460, 0, none⟩) (bE (bE HO455.out BK460.out (by decide)) BK452.out (by decide)) (fun _ hk => hk.1.2) (.slice Ao49 t453.length co49)) (fun _ hk => hk.1.2) (.slice Ao52 t456.length co52)) (fun _ hk => hk.2) (.slice Ao49 t453.length co49)) (fun _ hk => hk.2) (.slice Ao52 t456.length co52)) (fun _ hk => hk.1.1.1)), Kd.R_V (by exact bJ (bC (p := ⟨gb452, 1, none⟩) (bC (p := ⟨gb452, 0, none⟩) (bC (p := ⟨gb460, 1, none⟩) (bC (p := ⟨gb460, 0, none⟩) (bE (bE HO458.out BK460.out (by decide)) BK452.out (by decide)) (fun _ hk => hk.1.2) (.slice Ao49 t453.length co49)) (fun _ hk => hk.1.2) (.slice Ao52 t456.length co52)) (fun _ hk => hk.2) (.slice Ao49 t453.length co49)) (fun _ hk => hk.2) (.slice Ao52 t456.length co52)) (fun _ hk => hk.1.1.1)), by repeat (first | (with_reducible first | exact HB.out | refine bS ?_ GE452.out | refine bS ?_ GE460.out))⟩


def spec_l1Has.f (l0_0 : List Bool) (l0_1 : List Bool) (a1 : Int) : Option (Bool) := if a1 < (l0_0.length : Int) then (if 0 ≤ a1 then (some (rdOf false l0_0 a1)) else (none)) else (if (l0_1.length : Int) = 0 then (none) else (if 0 ≤ (Int.tmod (wrap64 (a1 - (l0_0.length : Int))) (l0_1.length : Int)) then (if (Int.tmod (wrap64 (a1 - (l0_0.length : Int))) (l0_1.length : Int)) < (l0_1.length : Int) then (some (rdOf false l0_1 (Int.tmod (wrap64 (a1 - (l0_0.length : Int))) (l0_1.length : Int)))) else (none)) else (none)))
set_option maxHeartbeats 8000000 in
set_option maxRecDepth 100000 in
theorem spec_l1Has.calls (A0_0 : Option Addr) (c0_0 : Nat) (l0_0 : List Bool) (A0_1 : Option Addr) (c0_1 : Nat) (l0_1 : List Bool) (a1 : Int) (r : Bool) (w : World) (hr0_0 : Kd.C Kd.bool w A0_0 l0_0.length l0_0) (hc0_0 : l0_0.length ≤ c0_0) (hr0_1 : Kd.C Kd.bool w A0_1 l0_1.length l0_1) (hc0_1 : l0_1.length ≤ c0_1) (h : spec_l1Has.f l0_0 l0_1 a1 = some r) :
  Calls Try.prog 97 #[.agg #[.slice A0_0 l0_0.length c0_0, .slice A0_1 l0_1.length c0_1], .int .i64 a1] w fun e w' => e = .returned (.bool r) ∧ Below w.heap.size w w' := by
 have HR0_0 := aM hr0_0
 clear hr0_0 hc0_0
 have HR0_1 := aM hr0_1
 clear hr0_1 hc0_1
 have HB := aM (cE w.heap.size w)
 have H : (if a1 < (l0_0.length : Int) then (if 0 ≤ a1 then (some (rdOf false l0_0 a1)) else (none)) else (if (l0_1.length : Int) = 0 then (none) else (if 0 ≤ (Int.tmod (wrap64 (a1 - (l0_0.length : Int))) (l0_1.length : Int)) then (if (Int.tmod (wrap64 (a1 - (l0_0.length : Int))) (l0_1.length : Int)) < (l0_1.length : Int) then (some (rdOf false l0_1 (Int.tmod (wrap64 (a1 - (l0_0.length : Int))) (l0_1.length : Int)))) else (none)) else (none)))) = some r := h
 clear h
 by_cases c3 : a1 < (l0_0.length : Int)
 ·rw [if_pos c3] at H
  have c3b0 : decide (a1 < (l0_0.length : Int)) = true := aH c3
  clear c3
  by_cases c4 : 0 ≤ a1
  ·rw [if_pos c4] at H
   have c4b0 : decide (0 ≤ a1) = true := aH c4
   clear c4
   obtain rfl := bU H
   go_enter Try.func97, Try.ntmps97
   go_wp2_with (first | ((with_reducible refine aZ (N := 2) rfl ?_); refine bB ?hg (N := 2) ?hd (cs := #[.slice A0_0 l0_0.length c0_0, .slice A0_1 l0_1.length c0_1]) (t := 94) ?hr ?_; (case hd => rfl); (case hg => rfl); (case hr => first | (go_simp; done)); intro gb468 hg w5 hbox hb; have BK468 := aM hbox; replace HB := aM (aE HB.out hb); clear hb hbox hg; have hcz6_0 : w5.cell? ⟨gb468, 0, none⟩ = some (.slice A0_0 l0_0.length c0_0) := (aA BK468.out 0).trans rfl; have p469 : 0 ≤ (a1 : Int) := aJ (by (with_reducible assumption)); have q469 : a1 < (l0_0.length : Int) := aJ (by (with_reducible assumption)); obtain ⟨ad469, e469, hx469_0⟩ := Kd.at_bool HR0_0.out a1 p469 q469; cases e469; replace hx469_0 := (HB.out.cell (World.block_lt_of_cell? w _ hx469_0)).trans hx469_0; replace p469 := eq_true p469; replace q469 := eq_true q469))
   repeat (go_quiet (fail); try go_wp2_with (fail))
   go_ret
   exact ⟨by first | rfl | (simp [*, errW_none, errW_some] <;> rfl), HB.out⟩
  ·rw [if_neg c4] at H
   exact absurd H (by simp)
 ·rw [if_neg c3] at H
  have c3b0 : decide (a1 < (l0_0.length : Int)) = false := aK c3
  clear c3
  by_cases c7 : (l0_1.length : Int) = 0
  ·rw [if_pos c7] at H
   exact absurd H (by simp)
  ·rw [if_neg c7] at H
   have c7b2 : ¬ (l0_1 = []) := fun h_ => c7 (by rw [h_]; rfl)
   obtain ⟨ji8, hji8⟩ : ∃ j_ : Int, (Int.tmod (wrap64 (a1 - (l0_0.length : Int))) (l0_1.length : Int)) = j_ := ⟨_, rfl⟩
   replace H : (if 0 ≤ (ji8) then (if (ji8) < (l0_1.length : Int) then (some (rdOf false l0_1 (ji8))) else (none)) else (none)) = some r := by first | (rw [hji8] at H; exact H)
   by_cases c9 : 0 ≤ (ji8)
   ·rw [if_pos c9] at H
    have c9b0 : decide (0 ≤ (ji8)) = true := aH c9
    clear c9
    by_cases c10 : (ji8) < (l0_1.length : Int)
    ·rw [if_pos c10] at H
     have c10b0 : decide ((ji8) < (l0_1.length : Int)) = true := aH c10
     clear c10
     obtain rfl := bU H
     go_enter Try.func97, Try.ntmps97
     go_wp2_with (first | ((with_reducible refine aZ (N := 2) rfl ?_); refine bB ?hg (N := 2) ?hd (cs := #[.slice A0_0 l0_0.length c0_0, .slice A0_1 l0_1.length c0_1]) (t := 94) ?hr ?_; (case hd => rfl); (case hg => rfl); (case hr => first | (go_simp; done)); intro gb468 hg w11 hbox hb; have BK468 := aM hbox; replace HB := aM (aE HB.out hb); clear hb hbox hg; have hcz12_0 : w11.cell? ⟨gb468, 0, none⟩ = some (.slice A0_0 l0_0.length c0_0) := (aA BK468.out 0).trans rfl; have hcz12_1 : w11.cell? ⟨gb468, 1, none⟩ = some (.slice A0_1 l0_1.length c0_1) := (aA BK468.out 1).trans rfl; have p470 : 0 ≤ ((ji8) : Int) := aJ (by (with_reducible assumption)); have q470 : (ji8) < (l0_1.length : Int) := aJ (by (with_reducible assumption)); obtain ⟨ad470, e470, hx470_0⟩ := Kd.at_bool HR0_1.out (ji8) p470 q470; cases e470; replace hx470_0 := (HB.out.cell (World.block_lt_of_cell? w _ hx470_0)).trans hx470_0; replace p470 := eq_true p470; replace q470 := eq_true q470))
     repeat (go_quiet (fail); try go_wp2_with (fail))
     go_ret
     exact ⟨by first | rfl | (simp [*, errW_none, errW_some] <;> rfl), by repeat (first | (with_reducible first | exact HB.out | apply bN))⟩
    ·rw [if_neg c10] at H
     exact absurd H (by simp)
   ·rw [if_neg c9] at H
    exact absurd H (by simp)


def spec_l4Least.l0 : Nat → Int → List Bool → List Bool → Option (Int)
 | 0, _, _, _ => none
 | k + 1, x3, x472000, x472001 => if x3 ≤ 20 then ((spec_l1Has.f x472000 x472001 x3).bind fun t472 => (if t472 = true then (some x3) else (spec_l4Least.l0 k (wrap64 (x3 + 1)) x472000 x472001))) else (some 0)
def spec_l4Least.f (k : Nat) (l0_0 : List Bool) (l0_1 : List Bool) : Option (Int) := spec_l4Least.l0 k 1 l0_0 l0_1
set_option maxHeartbeats 8000000 in
set_option maxRecDepth 100000 in
theorem spec_l4Least.calls (k : Nat) (A0_0 : Option Addr) (c0_0 : Nat) (l0_0 : List Bool) (A0_1 : Option Addr) (c0_1 : Nat) (l0_1 : List Bool) (r : Int) (w : World) (hr0_0 : Kd.C Kd.bool w A0_0 l0_0.length l0_0) (hc0_0 : l0_0.length ≤ c0_0) (hr0_1 : Kd.C Kd.bool w A0_1 l0_1.length l0_1) (hc0_1 : l0_1.length ≤ c0_1) (h : spec_l4Least.f k l0_0 l0_1 = some r) :
  Calls Try.prog 93 #[.agg #[.slice A0_0 l0_0.length c0_0, .slice A0_1 l0_1.length c0_1]] w fun e w' => e = .returned (.int .i64 r) ∧ Below w.heap.size w w' := by
 have HR0_0 := aM hr0_0
 have HC0_0 := aM hc0_0
 clear hr0_0 hc0_0
 have HR0_1 := aM hr0_1
 have HC0_1 := aM hc0_1
 clear hr0_1 hc0_1
 have HB := aM (cE w.heap.size w)
 have H : (spec_l4Least.l0 k 1 l0_0 l0_1) = some r := h
 clear h
 have H' := aM H
 clear H
 go_enter Try.func93, Try.ntmps93
 go_wp2_with (first | ((with_reducible refine aZ (N := 1) rfl ?_); refine bB ?hg (N := 1) ?hd (cs := #[.slice A0_0 l0_0.length c0_0, .slice A0_1 l0_1.length c0_1]) (t := 94) ?hr ?_; (case hd => rfl); (case hg => rfl); (case hr => first | (go_simp; done)); intro gb471 hg w2 hbox hb; have BK471 := aM hbox; replace HB := aM (aE HB.out hb); clear hb hbox hg))
 go_loopg [3] k (fun kq v3 w' => ∃ (x3_1 : Int), v3 = .int .i64 x3_1 ∧ Aside0 (spec_l4Least.l0 kq x3_1 l0_0 l0_1 = some r) ∧ Aside0 (kq ≤ k) ∧ Aside0 (w'.heap[gb471]? = some (.cells #[(.slice A0_0 l0_0.length c0_0), (.slice A0_1 l0_1.length c0_1)] 94 (0, 0))) ∧ Aside0 (Below w.heap.size w w'))
 case atStart => exact ⟨(1), (by rfl), H', ⟨cD _⟩, ⟨by exact BK471.out⟩, ⟨HB.out⟩⟩
 case round =>
  clear H'
  obtain ⟨x3_1, rfl, HA, HK1, BK471, HB⟩ := hrel
  cases gk with
  | zero => exact absurd HA.out (by simp [spec_l4Least.l0])
  | succ k1 =>
   have H := HA.out
   clear HA
   simp only [spec_l4Least.l0] at H
   by_cases c3 : x3_1 ≤ 20
   ·rw [if_pos c3] at H
    have c3b0 : decide (x3_1 ≤ 20) = true := aH c3
    clear c3
    replace H := Option.bind_eq_some_iff.mp H
    obtain ⟨t472, A40, H⟩ := H
    replace H : (if t472 = true then (some x3_1) else (spec_l4Least.l0 k1 (wrap64 (x3_1 + 1)) l0_0 l0_1)) = some r := H
    have A4 := aM A40
    clear A40
    by_cases c5 : t472 = true
    all_goals
     first
     |replace c5 := Bool.eq_false_iff.mpr c5
     |skip
     subst c5
     first
     |have H1 : (some x3_1) = some r := by rw [if_pos rfl] at H; exact H
     |have H1 : (spec_l4Least.l0 k1 (wrap64 (x3_1 + 1)) l0_0 l0_1) = some r := by rw [if_neg (show ¬ (false = true) by decide)] at H; exact H
     clear H
     have H := H1
     clear H1
     first
     |obtain rfl := bU H
     |have H' := aM H
      clear H
     have hcz6_0 : wr.cell? ⟨gb471, 0, none⟩ = some (.slice A0_0 l0_0.length c0_0) := (aA BK471.out 0).trans rfl
     have hcz6_1 : wr.cell? ⟨gb471, 1, none⟩ = some (.slice A0_1 l0_1.length c0_1) := (aA BK471.out 1).trans rfl
     go_wp2_with (first | ((with_reducible refine aY (f := 97) rfl ?_); refine gL 10 Try.func97 #[.agg #[.slice A0_0 l0_0.length c0_0, .slice A0_1 l0_1.length c0_1], .int .i64 x3_1] ?_; (with_reducible refine (spec_l1Has.calls _ _ l0_0 _ _ l0_1 x3_1 _ _ ?side1 ?side2 ?side3 ?side4 A4.out).mono ?_); (case side1 => repeat (exact (bF HR0_0.out HB.out))); (case side2 => exact HC0_0.out); (case side3 => repeat (exact (bF HR0_1.out HB.out))); (case side4 => exact HC0_1.out); rintro e w7 ⟨rfl, hb⟩; refine ⟨_, rfl, ?_⟩; replace BK471 := aM (aD (g := gb471) (o := .cells #[.slice A0_0 l0_0.length c0_0, .slice A0_1 l0_1.length c0_1] 94 (0, 0)) BK471.out hb); replace HB := aM (aE HB.out hb); (try clear hb)))
     first
     |go_ret
      exact ⟨by first | rfl | (simp [*, errW_none, errW_some] <;> rfl), HB.out⟩
     |go_roundg k1
      case measure => have := HK1.out; omega
      case rel => exact ⟨(wrap64 (x3_1 + 1)), (by rfl), H', ⟨by have := HK1.out; omega⟩, ⟨by exact BK471.out⟩, ⟨HB.out⟩⟩
   ·rw [if_neg c3] at H
    have c3b0 : decide (x3_1 ≤ 20) = false := aK c3
    clear c3
    obtain rfl := bU H
    go_wp2
    go_ret
    exact ⟨by first | rfl | (simp [*, errW_none, errW_some] <;> rfl), HB.out⟩


def spec_l1Bit.f (a0 : Bool) : Option (Int) := if a0 = true then (some 1) else (some 0)
set_option maxHeartbeats 8000000 in
set_option maxRecDepth 100000 in
theorem spec_l1Bit.calls (a0 : Bool) (r : Int) (w : World) (h : spec_l1Bit.f a0 = some r) :
  Calls Try.prog 44 #[.bool a0] w fun e w' => e = .returned (.int .i64 r) ∧ Drawn0 w w' := by
 have H : (if a0 = true then (some 1) else (some 0)) = some r := h
 clear h
 by_cases c2 : a0 = true
 ·subst c2
  replace H : (some 1) = some r := by rw [if_pos rfl] at H; exact H
  obtain rfl := bU H
  go_enter Try.func44, Try.ntmps44
  go_wp2
  go_ret
  exact ⟨by first | rfl | (simp [*]; done), by repeat (exact Drawn0.refl _)⟩
 ·replace c2 := Bool.eq_false_iff.mpr c2
  subst c2
  replace H : (some 0) = some r := by rw [if_neg (show ¬ (false = true) by decide)] at H; exact H
  obtain rfl := bU H
  go_enter Try.func44, Try.ntmps44
  go_wp2
  go_ret
  exact ⟨by first | rfl | (simp [*]; done), by repeat (exact Drawn0.refl _)⟩


mutual
def spec_l1Write.l0 : Nat → List Int → Int → List Bool → List Bool → Option (ByteArray)
 | 0, _, _, _, _ => none
 | k + 1, x3, x4, x474000, x474001 => if x4 < (x474000.length : Int) then (if 0 ≤ x4 then ((spec_l1Bit.f (rdOf false x474000 x4)).bind fun t478 => (if 0 ≤ t478 then (if t478 < 2 then (if x3.length < 140737488355328 then (spec_l1Write.l0 k (x3 ++ [bt (⟨#[48, 49]⟩ : ByteArray) t478]) (wrap64 (x4 + 1)) x474000 x474001) else (none)) else (none)) else (none))) else (none)) else (if x3.length < 140737488355328 then (spec_l1Write.l1 k (x3 ++ [40]) 0 x474000 x474001) else (none))
def spec_l1Write.l1 : Nat → List Int → Int → List Bool → List Bool → Option (ByteArray)
 | 0, _, _, _, _ => none
 | k + 1, x3, x5, x474000, x474001 => if x5 < (x474001.length : Int) then (if 0 ≤ x5 then ((spec_l1Bit.f (rdOf false x474001 x5)).bind fun t486 => (if 0 ≤ t486 then (if t486 < 2 then (if x3.length < 140737488355328 then (spec_l1Write.l1 k (x3 ++ [bt (⟨#[48, 49]⟩ : ByteArray) t486]) (wrap64 (x5 + 1)) x474000 x474001) else (none)) else (none)) else (none))) else (none)) else (if x3.length < 140737488355328 then (some (strOfNums (x3 ++ [41]))) else (none))
end
def spec_l1Write.f (k : Nat) (l0_0 : List Bool) (l0_1 : List Bool) : Option (ByteArray) := spec_l1Write.l0 k (([] : List Int)) 0 l0_0 l0_1
set_option maxHeartbeats 8000000 in
set_option maxRecDepth 100000 in
theorem spec_l1Write.calls (k : Nat) (A0_0 : Option Addr) (c0_0 : Nat) (l0_0 : List Bool) (A0_1 : Option Addr) (c0_1 : Nat) (l0_1 : List Bool) (r : ByteArray) (w : World) (hr0_0 : Kd.C Kd.bool w A0_0 l0_0.length l0_0) (hc0_0 : l0_0.length ≤ c0_0) (hr0_1 : Kd.C Kd.bool w A0_1 l0_1.length l0_1) (hc0_1 : l0_1.length ≤ c0_1) (h : spec_l1Write.f k l0_0 l0_1 = some r) :
  Calls Try.prog 106 #[.agg #[.slice A0_0 l0_0.length c0_0, .slice A0_1 l0_1.length c0_1]] w fun e w' => e = .returned (.string r) ∧ Below w.heap.size w w' := by
 have HR0_0 := aM hr0_0
 clear hr0_0 hc0_0
 have HR0_1 := aM hr0_1
 clear hr0_1 hc0_1
 have HB := aM (cE w.heap.size w)
 have H : (spec_l1Write.l0 k (([] : List Int)) 0 l0_0 l0_1) = some r := h
 clear h
 obtain ⟨y474, hy474⟩ : ∃ y_ : List Int, y_ = (([] : List Int)) := ⟨_, rfl⟩
 replace H : (spec_l1Write.l0 k y474 0 l0_0 l0_1) = some r := by first | (rw [hy474]; with_reducible exact H)
 have Ny474 := aM hy474
 clear hy474
 have H' := aM H
 clear H
 go_enter Try.func106, Try.ntmps106
 go_wp2_with (first | ((with_reducible refine aZ (N := 1) rfl ?_); refine bB ?hg (N := 1) ?hd (cs := #[.slice A0_0 l0_0.length c0_0, .slice A0_1 l0_1.length c0_1]) (t := 94) ?hr ?_; (case hd => rfl); (case hg => rfl); (case hr => first | (go_simp; done)); intro gb473 hg w2 hbox hb; have BK473 := aM hbox; replace HB := aM (aE HB.out hb); clear hb hbox hg) | ((with_reducible refine aZ (N := 6) rfl ?_); refine Kd.R_lit (Kd.int .u8) _ 5 ?hg (N := 6) ?hd (xs := ([] : List Int)) (inner := []) (ok := fun _ => True) (okp := fun _ => True) ?hr ?hp (fun _ hk => hk) trivial (cE _ _) (cD _) (by simp) ?_; (case hd => rfl); (case hg => rfl); (case hr => first | (go_simp; done)); (case hp => exact (Reps.none _ _)); intro v475 w3 ho4 hb hg_ hnew_; clear hg_ hnew_; (rw [← Ny474.out] at ho4); have HO476 := aM (bP ho4 (aG HB.out)); replace BK473 := aM (aD (g := gb473) (o := .cells #[.slice A0_0 l0_0.length c0_0, .slice A0_1 l0_1.length c0_1] 94 (0, 0)) BK473.out hb); replace HB := aM (aE HB.out hb); clear hb ho4))
 go_loopg [3, 4] k (fun kq v3 v4 w' => ∃ (x3_1 : List Int) (x4_1 : Int), v4 = .int .i64 x4_1 ∧ Aside0 (spec_l1Write.l0 kq x3_1 x4_1 l0_0 l0_1 = some r) ∧ Aside0 (kq ≤ k) ∧ Aside0 (Kd.R (Kd.int .u8) 5 w' w.heap.size (fun _ => True) v3 x3_1) ∧ Aside0 (w'.heap[gb473]? = some (.cells #[(.slice A0_0 l0_0.length c0_0), (.slice A0_1 l0_1.length c0_1)] 94 (0, 0))) ∧ Aside0 (Below w.heap.size w w'))
 case atStart => exact ⟨(y474), (0), (by rfl), H', ⟨cD _⟩, ⟨by exact HO476.out⟩, ⟨by exact BK473.out⟩, ⟨HB.out⟩⟩
 case round =>
  clear H'
  obtain ⟨x3_1, x4_1, rfl, HA, HK1, HO_3, BK473, HB⟩ := hrel
  cases gk with
  | zero => exact absurd HA.out (by simp [spec_l1Write.l0])
  | succ k1 =>
   have H := HA.out
   clear HA
   simp only [spec_l1Write.l0] at H
   by_cases c5 : x4_1 < (l0_0.length : Int)
   ·rw [if_pos c5] at H
    have c5b0 : decide (x4_1 < (l0_0.length : Int)) = true := aH c5
    clear c5
    by_cases c6 : 0 ≤ x4_1
    ·rw [if_pos c6] at H
     have c6b0 : decide (0 ≤ x4_1) = true := aH c6
     clear c6
     replace H := Option.bind_eq_some_iff.mp H
     obtain ⟨t478, A70, H⟩ := H
     replace H : (if 0 ≤ t478 then (if t478 < 2 then (if x3_1.length < 140737488355328 then (spec_l1Write.l0 k1 (x3_1 ++ [bt (⟨#[48, 49]⟩ : ByteArray) t478]) (wrap64 (x4_1 + 1)) l0_0 l0_1) else (none)) else (none)) else (none)) = some r := H
     have A7 := aM A70
     clear A70
     by_cases c8 : 0 ≤ t478
     ·rw [if_pos c8] at H
      have c8b0 : decide (0 ≤ t478) = true := aH c8
      clear c8
      by_cases c9 : t478 < 2
      ·rw [if_pos c9] at H
       have c9b0 : decide (t478 < 2) = true := aH c9
       clear c9
       by_cases c11 : x3_1.length < 140737488355328
       ·rw [if_pos c11] at H
        have LMc11 := aM c11
        clear c11
        obtain ⟨y479, hy479⟩ : ∃ y_ : List Int, y_ = (x3_1 ++ [bt (⟨#[48, 49]⟩ : ByteArray) t478]) := ⟨_, rfl⟩
        replace H : (spec_l1Write.l0 k1 y479 (wrap64 (x4_1 + 1)) l0_0 l0_1) = some r := by first | (rw [hy479]; with_reducible exact H)
        have Ny479 := aM hy479
        clear hy479
        have H' := aM H
        clear H
        have hcz12_0 : wr.cell? ⟨gb473, 0, none⟩ = some (.slice A0_0 l0_0.length c0_0) := (aA BK473.out 0).trans rfl
        have p477 : 0 ≤ (x4_1 : Int) := aJ (by (with_reducible assumption))
        have q477 : x4_1 < (l0_0.length : Int) := aJ (by (with_reducible assumption))
        obtain ⟨ad477, e477, hx477_0⟩ := Kd.at_bool HR0_0.out x4_1 p477 q477
        cases e477
        replace hx477_0 := (HB.out.cell (World.block_lt_of_cell? w _ hx477_0)).trans hx477_0
        replace p477 := eq_true p477
        replace q477 := eq_true q477
        go_wp2_with (first | ((with_reducible refine aY (f := 44) rfl ?_); refine gL 20 Try.func44 #[.bool (rdOf false l0_0 x4_1)] ?_; (with_reducible refine (spec_l1Bit.calls (rdOf false l0_0 x4_1) t478 _ A7.out).mono ?_); rintro e w' ⟨rfl, ⟨nd, rfl⟩⟩; refine ⟨_, rfl, ?_⟩; have p10 : 0 ≤ (t478 : Int) := aJ (by (with_reducible assumption)); have q10 : t478 < (2 : Int) := aJ (by (with_reducible assumption)); have hx10 := bt_at (⟨#[48, 49]⟩ : ByteArray) t478; replace p10 := eq_true p10; replace q10 := eq_true q10) | ((with_reducible refine gate_builtin (b := .append) (xs := #[.tmp 14, .tmp 22]) rfl ?_); at_builtin; refine Kd.R_append (Kd.int .u8) (w0 := w) w.heap.size rfl (.tmp 14) (.tmp 22) 22 5 (.int .u8 0) 1 rfl Try.underlying22 info5 rfl (by decide) (by omega) u3 x3_1 (bt (⟨#[48, 49]⟩ : ByteArray) t478) [.int .u8 (bt (⟨#[48, 49]⟩ : ByteArray) t478)] (fun _ => True) (fun _ => False) rfl rfl ?aP (fun _ hk => hk.elim) ?aF ?aO ?aB ?aS ?aL ?_; (case aP => exact rfl); (case aB => exact (by repeat (first | (with_reducible first | exact HB.out | apply bN)))); (case aF => exact (fun _ _ => trivial)); (case aO => exact (by (with_reducible repeat (apply rN)); exact HO_3.out)); (case aS => exact (aG (by repeat (first | (with_reducible first | exact HB.out | apply bN))))); (case aL => have := LMc11.out; omega); intro v480 w13 ho hb hg hat; rw [← Ny479.out] at ho; replace BK473 := aM (blk_grown (g := gb473) (o := .cells #[.slice (some ad477) l0_0.length c0_0, .slice A0_1 l0_1.length c0_1] 94 (0, 0)) (by (with_reducible repeat (refine kN ?_ _)); exact BK473.out) hg (Kd.R_ne HO_3.out BK473.out (by decide))); replace HB := aM hb; have HO481 := aM ho; clear HO_3; clear ho hb hg hat))
        go_roundg k1
        case measure => have := HK1.out; omega
        case rel => exact ⟨(y479), (wrap64 (x4_1 + 1)), (by rfl), H', ⟨by have := HK1.out; omega⟩, ⟨by exact HO481.out⟩, ⟨by exact BK473.out⟩, ⟨HB.out⟩⟩
       ·rw [if_neg c11] at H
        exact absurd H (by simp)
      ·rw [if_neg c9] at H
       exact absurd H (by simp)
     ·rw [if_neg c8] at H
      exact absurd H (by simp)
    ·rw [if_neg c6] at H
     exact absurd H (by simp)
   ·rw [if_neg c5] at H
    have c5b0 : decide (x4_1 < (l0_0.length : Int)) = false := aK c5
    clear c5
    by_cases c14 : x3_1.length < 140737488355328
    ·rw [if_pos c14] at H
     have LMc14 := aM c14
     clear c14
     obtain ⟨y482, hy482⟩ : ∃ y_ : List Int, y_ = (x3_1 ++ [40]) := ⟨_, rfl⟩
     replace H : (spec_l1Write.l1 k1 y482 0 l0_0 l0_1) = some r := by first | (rw [hy482]; with_reducible exact H)
     have Ny482 := aM hy482
     clear hy482
     have H' := aM H
     clear H
     have hcz15_0 : wr.cell? ⟨gb473, 0, none⟩ = some (.slice A0_0 l0_0.length c0_0) := (aA BK473.out 0).trans rfl
     have hcz15_1 : wr.cell? ⟨gb473, 1, none⟩ = some (.slice A0_1 l0_1.length c0_1) := (aA BK473.out 1).trans rfl
     have hfz15_0 := aC BK473.out 0
     have hfz15_1 := aC BK473.out 1
     go_wp2_with (first | ((with_reducible refine gate_builtin (b := .append) (xs := #[.tmp 24, .tmp 25]) rfl ?_); at_builtin; refine Kd.R_append (Kd.int .u8) (w0 := w) w.heap.size rfl (.tmp 24) (.tmp 25) 22 5 (.int .u8 0) 1 rfl Try.underlying22 info5 rfl (by decide) (by omega) u3 x3_1 40 [.int .u8 40] (fun _ => True) (fun _ => False) rfl rfl ?aP (fun _ hk => hk.elim) ?aF ?aO ?aB ?aS ?aL ?_; (case aP => exact rfl); (case aB => exact HB.out); (case aF => exact (fun _ _ => trivial)); (case aO => exact HO_3.out); (case aS => exact (aG HB.out)); (case aL => have := LMc14.out; omega); intro v483 w16 ho hb hg hat; rw [← Ny482.out] at ho; replace BK473 := aM (blk_grown (g := gb473) (o := .cells #[.slice A0_0 l0_0.length c0_0, .slice A0_1 l0_1.length c0_1] 94 (0, 0)) BK473.out hg (Kd.R_ne HO_3.out BK473.out (by decide))); replace HB := aM hb; have HO484 := aM ho; clear HO_3; clear ho hb hg hat))
     go_loopg [3, 5] k1 (fun kq v3 v5 w' => ∃ (x3_2 : List Int) (x5_2 : Int), v5 = .int .i64 x5_2 ∧ Aside0 (spec_l1Write.l1 kq x3_2 x5_2 l0_0 l0_1 = some r) ∧ Aside0 (kq ≤ k1) ∧ Aside0 (Kd.R (Kd.int .u8) 5 w' w.heap.size (fun _ => True) v3 x3_2) ∧ Aside0 (w'.heap[gb473]? = some (.cells #[(.slice A0_0 l0_0.length c0_0), (.slice A0_1 l0_1.length c0_1)] 94 (0, 0))) ∧ Aside0 (Below w.heap.size w w'))
     case atStart => exact ⟨(y482), (0), (by rfl), H', ⟨cD _⟩, ⟨by exact HO484.out⟩, ⟨by exact BK473.out⟩, ⟨HB.out⟩⟩
     case round =>
      clear H'
      try clear c5b0
      try clear hcz15_0
      try clear hcz15_1
      try clear hfz15_0
      try clear hfz15_1
      obtain ⟨x3_2, x5_2, rfl, HA, HK2, HO_3, BK473, HB⟩ := hrel
      cases gk with
      | zero => exact absurd HA.out (by simp [spec_l1Write.l1])
      | succ k2 =>
       have H := HA.out
       clear HA
       simp only [spec_l1Write.l1] at H
       by_cases c17 : x5_2 < (l0_1.length : Int)
       ·rw [if_pos c17] at H
        have c17b0 : decide (x5_2 < (l0_1.length : Int)) = true := aH c17
        clear c17
        by_cases c18 : 0 ≤ x5_2
        ·rw [if_pos c18] at H
         have c18b0 : decide (0 ≤ x5_2) = true := aH c18
         clear c18
         replace H := Option.bind_eq_some_iff.mp H
         obtain ⟨t486, A190, H⟩ := H
         replace H : (if 0 ≤ t486 then (if t486 < 2 then (if x3_2.length < 140737488355328 then (spec_l1Write.l1 k2 (x3_2 ++ [bt (⟨#[48, 49]⟩ : ByteArray) t486]) (wrap64 (x5_2 + 1)) l0_0 l0_1) else (none)) else (none)) else (none)) = some r := H
         have A19 := aM A190
         clear A190
         by_cases c20 : 0 ≤ t486
         ·rw [if_pos c20] at H
          have c20b0 : decide (0 ≤ t486) = true := aH c20
          clear c20
          by_cases c21 : t486 < 2
          ·rw [if_pos c21] at H
           have c21b0 : decide (t486 < 2) = true := aH c21
           clear c21
           by_cases c23 : x3_2.length < 140737488355328
           ·rw [if_pos c23] at H
            have LMc23 := aM c23
            clear c23
            obtain ⟨y487, hy487⟩ : ∃ y_ : List Int, y_ = (x3_2 ++ [bt (⟨#[48, 49]⟩ : ByteArray) t486]) := ⟨_, rfl⟩
            replace H : (spec_l1Write.l1 k2 y487 (wrap64 (x5_2 + 1)) l0_0 l0_1) = some r := by first | (rw [hy487]; with_reducible exact H)
            have Ny487 := aM hy487
            clear hy487
            have H' := aM H
            clear H
            have hcz24_1 : wr.cell? ⟨gb473, 1, none⟩ = some (.slice A0_1 l0_1.length c0_1) := (aA BK473.out 1).trans rfl
            have p485 : 0 ≤ (x5_2 : Int) := aJ (by (with_reducible assumption))
            have q485 : x5_2 < (l0_1.length : Int) := aJ (by (with_reducible assumption))
            obtain ⟨ad485, e485, hx485_0⟩ := Kd.at_bool HR0_1.out x5_2 p485 q485
            cases e485
            replace hx485_0 := (HB.out.cell (World.block_lt_of_cell? w _ hx485_0)).trans hx485_0
            replace p485 := eq_true p485
            replace q485 := eq_true q485
            go_wp2_with (first | ((with_reducible refine aY (f := 44) rfl ?_); refine gL 40 Try.func44 #[.bool (rdOf false l0_1 x5_2)] ?_; (with_reducible refine (spec_l1Bit.calls (rdOf false l0_1 x5_2) t486 _ A19.out).mono ?_); rintro e w' ⟨rfl, ⟨nd, rfl⟩⟩; refine ⟨_, rfl, ?_⟩; have p22 : 0 ≤ (t486 : Int) := aJ (by (with_reducible assumption)); have q22 : t486 < (2 : Int) := aJ (by (with_reducible assumption)); have hx22 := bt_at (⟨#[48, 49]⟩ : ByteArray) t486; replace p22 := eq_true p22; replace q22 := eq_true q22) | ((with_reducible refine gate_builtin (b := .append) (xs := #[.tmp 34, .tmp 42]) rfl ?_); at_builtin; refine Kd.R_append (Kd.int .u8) (w0 := w) w.heap.size rfl (.tmp 34) (.tmp 42) 22 5 (.int .u8 0) 1 rfl Try.underlying22 info5 rfl (by decide) (by omega) u3 x3_2 (bt (⟨#[48, 49]⟩ : ByteArray) t486) [.int .u8 (bt (⟨#[48, 49]⟩ : ByteArray) t486)] (fun _ => True) (fun _ => False) rfl rfl ?aP (fun _ hk => hk.elim) ?aF ?aO ?aB ?aS ?aL ?_; (case aP => exact rfl); (case aB => exact (by repeat (first | (with_reducible first | exact HB.out | apply bN)))); (case aF => exact (fun _ _ => trivial)); (case aO => exact (by (with_reducible repeat (apply rN)); exact HO_3.out)); (case aS => exact (aG (by repeat (first | (with_reducible first | exact HB.out | apply bN))))); (case aL => have := LMc23.out; omega); intro v488 w25 ho hb hg hat; rw [← Ny487.out] at ho; replace BK473 := aM (blk_grown (g := gb473) (o := .cells #[.slice A0_0 l0_0.length c0_0, .slice (some ad485) l0_1.length c0_1] 94 (0, 0)) (by (with_reducible repeat (refine kN ?_ _)); exact BK473.out) hg (Kd.R_ne HO_3.out BK473.out (by decide))); replace HB := aM hb; have HO489 := aM ho; clear HO_3; clear ho hb hg hat))
            go_roundg k2
            case measure => have := HK1.out; have := HK2.out; omega
            case rel => exact ⟨(y487), (wrap64 (x5_2 + 1)), (by rfl), H', ⟨by have := HK1.out; have := HK2.out; omega⟩, ⟨by exact HO489.out⟩, ⟨by exact BK473.out⟩, ⟨HB.out⟩⟩
           ·rw [if_neg c23] at H
            exact absurd H (by simp)
          ·rw [if_neg c21] at H
           exact absurd H (by simp)
         ·rw [if_neg c20] at H
          exact absurd H (by simp)
        ·rw [if_neg c18] at H
         exact absurd H (by simp)
       ·rw [if_neg c17] at H
        have c17b0 : decide (x5_2 < (l0_1.length : Int)) = false := aK c17
        clear c17
        by_cases c26 : x3_2.length < 140737488355328
        ·rw [if_pos c26] at H
         have LMc26 := aM c26
         clear c26
         obtain ⟨y490, hy490⟩ : ∃ y_ : List Int, y_ = (x3_2 ++ [41]) := ⟨_, rfl⟩
         replace H : (some (strOfNums y490)) = some r := by first | (rw [hy490]; with_reducible exact H)
         have Ny490 := aM hy490
         clear hy490
         obtain rfl := bU H
         have hcz27_1 : wr.cell? ⟨gb473, 1, none⟩ = some (.slice A0_1 l0_1.length c0_1) := (aA BK473.out 1).trans rfl
         go_wp2_with (first | ((with_reducible refine gate_builtin (b := .append) (xs := #[.tmp 44, .tmp 45]) rfl ?_); at_builtin; refine Kd.R_append (Kd.int .u8) (w0 := w) w.heap.size rfl (.tmp 44) (.tmp 45) 22 5 (.int .u8 0) 1 rfl Try.underlying22 info5 rfl (by decide) (by omega) u3 x3_2 41 [.int .u8 41] (fun _ => True) (fun _ => False) rfl rfl ?aP (fun _ hk => hk.elim) ?aF ?aO ?aB ?aS ?aL ?_; (case aP => exact rfl); (case aB => exact HB.out); (case aF => exact (fun _ _ => trivial)); (case aO => exact HO_3.out); (case aS => exact (aG HB.out)); (case aL => have := LMc26.out; omega); intro v491 w28 ho hb hg hat; rw [← Ny490.out] at ho; replace HB := aM hb; have HO492 := aM ho; clear HO_3; clear ho hb hg hat; have hcv29 := own_string (P := Try.prog) Try.underlying22 Try.underlying5 Try.underlying9 (Kd.own_of_R HO492.out)))
         go_ret
         exact ⟨by first | rfl | (simp [*, errW_none, errW_some] <;> rfl), HB.out⟩
        ·rw [if_neg c26] at H
         exact absurd H (by simp)
    ·rw [if_neg c14] at H
     exact absurd H (by simp)

end Go.Proofs.Ytedhckahjinieaa.Q
