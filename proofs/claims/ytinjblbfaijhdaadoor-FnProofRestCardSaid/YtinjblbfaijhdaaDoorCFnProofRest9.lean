/- The law FnProofRest holds for all that it draws. -/
import Derived.Test.YtinjblbfaijhdaaDoorProg
import Derived.Below
import Derived.Deep.Draws
import Derived.Deep.AppendLies
import Derived.Maps.AppendAt
import Derived.OwnWalk
import Derived.Laws.BytesArg
import Derived.Laws.MakeOwn
import Derived.Laws.OwnMore
import Derived.Deep.OwnRows
import Derived.Tactics
import Derived.Lib.ConvBytes
import Derived.Laws.Slices
import Derived.WalkKit
import Derived.KernelRfl
import Derived.RowKit3
import Derived.Deep.LoopGhost
import Derived.Deep.QuietTactic
import Derived.BigQuiet
import Derived.WideLaws
import Derived.Deep.DeepCutAuto
import Derived.Deep.CutBlock
import Derived.Deep.RegionHeld3
import Derived.Laws.Rows
import Derived.Lib.AppendStr
import Derived.ArgAppend
import Derived.Laws.IdiomCopy
import Derived.OrdersHeld
import Derived.Laws.BitsLemmas
import Derived.RowKit
import Derived.Lib.Hide
import Derived.WalkSpells
import Derived.Lib.Bytealg
import Derived.Lib.Strings
import Derived.Lib.Slices
import Derived.Lib.Walk
import Derived.Laws.StructEq
import Derived.Test.YtinjblbfaijhdaaDoorCFnProofRest4
import Derived.Test.YtinjblbfaijhdaaDoorCFnProofRest6
import Derived.Test.YtinjblbfaijhdaaDoorCFnProofRest7
import Derived.Test.YtinjblbfaijhdaaDoorCFnProofRest8
namespace Go.Proofs.YtinjblbfaijhdaaDoor.Q
open Go.RowKit Go.Proofs.YtinjblbfaijhdaaDoorW.PrintWords Go.Proofs.YtinjblbfaijhdaaDoorW.PrintLast Go.Proofs.YtinjblbfaijhdaaDoorW.PrintMore
attribute [local go_sem] max2_int min2_int max_two min_two max_three min_three max_four min_four   -- for this text's walks alone
set_option linter.unusedVariables false
set_option linter.unusedSimpArgs false
def errW : Option Int → Value
 | none => .nilIface
 | some c => .iface 103 (.int .i64 c)
theorem errW_none : errW none = .nilIface := rfl
theorem errW_some (c : Int) : errW (some c) = .iface 103 (.int .i64 c) := rfl

theorem info3 : (Tryd.prog.info? 3).map (fun i => (i.zero, i.size, i.bytes)) = some (some (.int .i64 0), 1, 8) := by kernel_rfl
theorem info4 : (Tryd.prog.info? 4).map (fun i => (i.zero, i.size, i.bytes)) = some (some (.bool false), 1, 1) := by kernel_rfl
theorem info5 : (Tryd.prog.info? 5).map (fun i => (i.zero, i.size, i.bytes)) = some (some (.int .u8 0), 1, 1) := by kernel_rfl

/-- A state of type 74 at block g of W; what its slices lead to came in by w0. -/
def IsS74 (w0 W : World) (g : Nat) (f0 : List Int) (f1 : Int) : Prop := ∃ A0 c0, W.heap[g]? = some (.cells #[.slice A0 f0.length c0, .int .i64 f1] 74 (0, 0)) ∧ w0.heap.size ≤ g ∧ Kd.C (Kd.int .u8) w0 A0 f0.length f0
theorem IsS74.grown {w0 W : World} {g : Nat} {f0 : List Int} {f1 : Int} {W1 : World} {row : Option Nat} (h : IsS74 w0 W g f0 f1) (hw : W.grownBy W1 row) (hne : some g ≠ row) : IsS74 w0 W1 g f0 f1 := by
 obtain ⟨A0, c0, hb, hg, hr0⟩ := h
 exact ⟨A0, c0, blk_grown hb hw hne, hg, hr0⟩
theorem IsS74.fresh {w0 W : World} {g : Nat} {f0 : List Int} {f1 : Int} (h : IsS74 w0 W g f0 f1) : ∀ k, W.heap.size ≤ k → k ≠ g := by
 obtain ⟨A0, c0, hb, hg, hr0⟩ := h
 exact Kd.freshB hb
theorem IsS74.kept {w0 W : World} {g : Nat} {f0 : List Int} {f1 : Int} {W1 : World} {S : Nat → Prop} (h : IsS74 w0 W g f0 f1) (hk : Kept W W1 S) (hne : ¬ S g) : IsS74 w0 W1 g f0 f1 := by
 obtain ⟨A0, c0, hb, hg, hr0⟩ := h
 exact ⟨A0, c0, blk_kept hb hk hne, hg, hr0⟩
theorem IsS74.below {w0 W : World} {g : Nat} {f0 : List Int} {f1 : Int} {W1 : World} (h : IsS74 w0 W g f0 f1) (hw : Below W.heap.size W W1) : IsS74 w0 W1 g f0 f1 := h.grown (grown_of_below hw none) (by simp)
theorem IsS74.alloc {w0 W : World} {g : Nat} {f0 : List Int} {f1 : Int} (h : IsS74 w0 W g f0 f1) (o : Obj) : IsS74 w0 (W.alloc o) g f0 f1 := h.below (below_alloc (Below.refl _ _) o)
theorem IsS74.drewN {w0 W : World} {g : Nat} {f0 : List Int} {f1 : Int} (h : IsS74 w0 W g f0 f1) (m : Nat) : IsS74 w0 (W.drewN m) g f0 f1 := h
theorem IsS74.drew {w0 W : World} {g : Nat} {f0 : List Int} {f1 : Int} (h : IsS74 w0 W g f0 f1) : IsS74 w0 W.drew g f0 f1 := h
theorem IsS74.at_ {w0 W : World} {g : Nat} {f0 : List Int} {f1 : Int} {w' : World} {m : Nat} (hq : W.drewN m = w') (h : IsS74 w0 W g f0 f1) : IsS74 w0 w' g f0 f1 := by subst hq; exact IsS74.drewN h m
theorem IsS74.apart {w0 W : World} {g : Nat} {f0 : List Int} {f1 : Int} {α : Type} {d : Kd α} {e : Nat} {base : Nat} {ok : Nat → Prop} {v : Value} {xs : List α} (h : IsS74 w0 W g f0 f1) (ho : d.R e W base ok v xs) (ht : ∀ q, q ∈ e :: d.E → q ≠ 74) : d.R e W base (fun k => ok k ∧ k ≠ g) v xs := by
 obtain ⟨A0, c0, hb, hg, hr0⟩ := h
 exact Kd.R_types ho hb ht
theorem IsS74.own_ne {w0 W : World} {g : Nat} {f0 : List Int} {f1 : Int} {α : Type} {d : Kd α} {e : Nat} {base : Nat} {ok : Nat → Prop} {v : Value} {xs : List α} (h : IsS74 w0 W g f0 f1) (ho : d.R e W base ok v xs) (ht : e ≠ 74) : some g ≠ v.ownBlock := by
 obtain ⟨A0, c0, hb, hg, hr0⟩ := h
 exact Kd.R_ne ho hb ht
theorem IsS74.lt {w0 W : World} {g : Nat} {f0 : List Int} {f1 : Int} (h : IsS74 w0 W g f0 f1) : g < W.heap.size := by
 obtain ⟨A0, c0, hb, hg, hr0⟩ := h
 exact blk_lt hb
theorem IsS74.ge {w0 W : World} {g : Nat} {f0 : List Int} {f1 : Int} (h : IsS74 w0 W g f0 f1) : w0.heap.size ≤ g := by
 obtain ⟨A0, c0, hb, hg, hr0⟩ := h
 exact hg
theorem cellS74_0 {W : World} {g : Nat} {A0 : Option Addr} {c0 : Nat} {f0 : List Int} {f1 : Int} (h : W.heap[g]? = some (.cells #[.slice A0 f0.length c0, .int .i64 f1] 74 (0, 0))) : W.cell? ⟨g, 0, none⟩ = some (.slice A0 f0.length c0) := (blk_cell h 0).trans rfl
theorem cellS74_1 {W : World} {g : Nat} {A0 : Option Addr} {c0 : Nat} {f0 : List Int} {f1 : Int} (h : W.heap[g]? = some (.cells #[.slice A0 f0.length c0, .int .i64 f1] 74 (0, 0))) : W.cell? ⟨g, 1, none⟩ = some (.int .i64 f1) := (blk_cell h 1).trans rfl
theorem IsS74.set_1 {w0 W : World} {g : Nat} {f0 : List Int} {f1 : Int} (h : IsS74 w0 W g f0 f1) (x : Int) : IsS74 w0 (W.setCell ⟨g, 1, none⟩ (.int .i64 x)) g f0 x := by
 obtain ⟨A0, c0, hb, hg, hr0⟩ := h
 exact ⟨A0, c0, by simpa using blk_set hb 1 (.int .i64 x), hg, hr0⟩
def spec_l6Open.f (l0 : List Int) : Option (List Int × Int) := if (l0.length : Int) > 2000 then (if 2000 ≤ (l0.length : Int) then (some (l0.take 2000, 0)) else (none)) else (some (l0, 0))
set_option maxHeartbeats 8000000 in
set_option maxRecDepth 100000 in
theorem spec_l6Open.calls (A0 : Option Addr) (c0 : Nat) (l0 : List Int) (r1 : List Int) (r2 : Int) (w0 w : World) (hB : Below w0.heap.size w0 w) (hr0 : Kd.C (Kd.int .u8) w0 A0 l0.length l0) (hc0 : l0.length ≤ c0) (h : spec_l6Open.f l0 = some (r1, r2)) :
  Calls Tryd.prog 37 #[.slice A0 l0.length c0] w fun e w' => ∃ g_ : Nat, e = .returned (.pointer (some ⟨g_, 0, none⟩)) ∧ IsS74 w0 w' g_ r1 r2 ∧ Below w0.heap.size w0 w' ∧ Below w.heap.size w w' := by
 have hu74 := Tryd.underlying74
 have HR0 := Aside0.mk hr0
 have HC0 := Aside0.mk hc0
 clear hr0 hc0
 have HBW := Aside0.mk (Below.refl w.heap.size w)
 have HW0 := Aside0.mk hB.size
 have HB := Aside0.mk hB
 clear hB
 have H : (if (l0.length : Int) > 2000 then (if 2000 ≤ (l0.length : Int) then (some (l0.take 2000, 0)) else (none)) else (some (l0, 0))) = some (r1, r2) := h
 clear h
 by_cases c2 : (l0.length : Int) > 2000
 ·rw [if_pos c2] at H
  have c2b0 : decide (2000 < (l0.length : Int)) = true := decide_eq_true c2
  have c2b1 : decide (2000 < l0.length) = true := decide_eq_true (by omega)
  clear c2
  by_cases c3 : 2000 ≤ (l0.length : Int)
  ·rw [if_pos c3] at H
   have c3b0 := eq_true c3
   have c3b1 : decide (2000 ≤ (l0.length : Int)) = true := decide_eq_true c3
   clear c3
   simp only [Option.some.injEq, Prod.mk.injEq] at H
   obtain ⟨rfl, rfl⟩ := H
   obtain ⟨i04, hi04, _, hsz4, _⟩ := info_parts info5
   obtain ⟨hcut4, hA4, hC4⟩ := print_take_of (P := Tryd.prog) (Value.int .u8) 0 22 5 .i64 Tryd.underlying22 hi04 hsz4 A0 c0 l0 2000 (by omega) (of_decide_eq_true (by (with_reducible assumption))) HC0.out
   have HR101 := Aside0.mk (Kd.C_of_reads (h1 := fun _ => rfl) (hA4 _ (Kd.reads_of_C HR0.out)))
   have HC101 := Aside0.mk hC4
   clear hA4 hC4 hi04 hsz4
   go_enter Tryd.func37, Tryd.ntmps37
   go_wp2_with (first | ((with_reducible refine gate_dst (N := 10) rfl ?_); refine box_event ?hg (N := 10) ?hd (cs := #[.slice A0 (l0.take 2000).length c0, .int .i64 0]) (t := 74) ?hr ?_; (case hd => rfl); (case hg => rfl); (case hr => first | (go_simp; done)); intro gb102 hg w5 hbox hb; replace HB := Aside0.mk (below_step HB.out hb); have BK102 := Aside0.mk hbox; have GW102 := Aside0.mk ((by rw [hg]; exact (below_size HBW.out) : w.heap.size ≤ gb102)); have GE102 := Aside0.mk ((Nat.le_trans HW0.out (by rw [hg]; exact (below_size HBW.out) : w.heap.size ≤ gb102) : w0.heap.size ≤ gb102)); replace HBW := Aside0.mk (below_step HBW.out hb); clear hb hbox hg))
   go_ret
   exact ⟨_, rfl, (show IsS74 w0 _ gb102 (l0.take 2000) 0 from ⟨_, _, by exact BK102.out, GE102.out, HR101.out⟩), HB.out, HBW.out⟩
  ·rw [if_neg c3] at H
   exact absurd H (by simp)
 ·rw [if_neg c2] at H
  have c2b0 : decide (2000 < (l0.length : Int)) = false := decide_eq_false c2
  have c2b1 : decide (2000 < l0.length) = false := decide_eq_false (by omega)
  clear c2
  simp only [Option.some.injEq, Prod.mk.injEq] at H
  obtain ⟨rfl, rfl⟩ := H
  go_enter Tryd.func37, Tryd.ntmps37
  go_wp2_with (first | ((with_reducible refine gate_dst (N := 10) rfl ?_); refine box_event ?hg (N := 10) ?hd (cs := #[.slice A0 l0.length c0, .int .i64 0]) (t := 74) ?hr ?_; (case hd => rfl); (case hg => rfl); (case hr => first | (go_simp; done)); intro gb103 hg w6 hbox hb; replace HB := Aside0.mk (below_step HB.out hb); have BK103 := Aside0.mk hbox; have GW103 := Aside0.mk ((by rw [hg]; exact (below_size HBW.out) : w.heap.size ≤ gb103)); have GE103 := Aside0.mk ((Nat.le_trans HW0.out (by rw [hg]; exact (below_size HBW.out) : w.heap.size ≤ gb103) : w0.heap.size ≤ gb103)); replace HBW := Aside0.mk (below_step HBW.out hb); clear hb hbox hg))
  go_ret
  exact ⟨_, rfl, (show IsS74 w0 _ gb103 l0 0 from ⟨_, _, by exact BK103.out, GE103.out, HR0.out⟩), HB.out, HBW.out⟩


def spec_l6Rd_pick.j0 : Nat → Int → Bool → List Int → Int → Option (Int × Int)
 | 0, _, _, _, _ => none
 | k + 1, x1, x24, x1000, x1001 => if x24 = true then (some (0, x1001)) else (if (wrap64 (x1001 - 1)) < (x1000.length : Int) then (if 0 ≤ (wrap64 (x1001 - 1)) then (if x1 = 0 then (none) else (some (Int.tmod (wrap64 (rd x1000 (wrap64 (x1001 - 1)))) x1, x1001))) else (none)) else (if (x1000.length : Int) = 0 then (none) else (if 0 ≤ (Int.tmod (wrap64 (x1001 - 1)) (x1000.length : Int)) then (if (Int.tmod (wrap64 (x1001 - 1)) (x1000.length : Int)) < (x1000.length : Int) then (if 0 ≤ (Int.tmod (wrap64 ((wrap64 ((wrap64 (x1001 - 1)) * 7)) + 3)) (x1000.length : Int)) then (if (Int.tmod (wrap64 ((wrap64 ((wrap64 (x1001 - 1)) * 7)) + 3)) (x1000.length : Int)) < (x1000.length : Int) then (if x1 = 0 then (none) else (some (Int.tmod (Go.bits .xor .i64 (wrap64 ((wrap64 ((wrap64 ((wrap64 ((wrap64 (rd x1000 (Int.tmod (wrap64 (x1001 - 1)) (x1000.length : Int)))) * 131)) + (wrap64 ((wrap64 (rd x1000 (Int.tmod (wrap64 ((wrap64 ((wrap64 (x1001 - 1)) * 7)) + 3)) (x1000.length : Int)))) * 1117)))) + (wrap64 ((wrap64 (x1001 - 1)) * 29)))) + (wrap64 ((wrap64 (Int.tdiv (wrap64 (x1001 - 1)) (x1000.length : Int))) * 53)))) (wrap64 (Int.tdiv (wrap64 ((wrap64 ((wrap64 ((wrap64 ((wrap64 (rd x1000 (Int.tmod (wrap64 (x1001 - 1)) (x1000.length : Int)))) * 131)) + (wrap64 ((wrap64 (rd x1000 (Int.tmod (wrap64 ((wrap64 ((wrap64 (x1001 - 1)) * 7)) + 3)) (x1000.length : Int)))) * 1117)))) + (wrap64 ((wrap64 (x1001 - 1)) * 29)))) + (wrap64 ((wrap64 (Int.tdiv (wrap64 (x1001 - 1)) (x1000.length : Int))) * 53)))) 64))) x1, x1001))) else (none)) else (none)) else (none)) else (none))))
def spec_l6Rd_pick.f (k : Nat) (s0_0 : List Int) (s0_1 : Int) (a1 : Int) : Option (Int × Int) := if a1 < 1 then (spec_l6Rd_pick.j0 k a1 true s0_0 (wrap64 (s0_1 + 1))) else (spec_l6Rd_pick.j0 k a1 ((s0_0.length : Int) == 0) s0_0 (wrap64 (s0_1 + 1)))
theorem spec_l6Rd_pick.mono_l : ∀ k, (∀ y0 y1 y2 y3, LeO (spec_l6Rd_pick.j0 k y0 y1 y2 y3) (spec_l6Rd_pick.j0 (k + 1) y0 y1 y2 y3))
 | 0 => fun _ _ _ _ r h => by simp [spec_l6Rd_pick.j0] at h
 | k + 1 => by
  have ih0 := spec_l6Rd_pick.mono_l k
  ·intro y0 y1 y2 y3
   unfold spec_l6Rd_pick.j0
   repeat' (with_reducible exact LeO.refl _)
theorem spec_l6Rd_pick.mono : ∀ a0 a1 a2 k, LeO (spec_l6Rd_pick.f k a0 a1 a2) (spec_l6Rd_pick.f (k + 1) a0 a1 a2) := by
 intro a0 a1 a2 k
 have ih0 := spec_l6Rd_pick.mono_l k
 unfold spec_l6Rd_pick.f
 repeat' first | (with_reducible exact ih0 _ _ _ _) | (with_reducible refine LeO.ite ?_ ?_)
set_option maxHeartbeats 8000000 in
set_option maxRecDepth 100000 in
theorem spec_l6Rd_pick.calls (k : Nat) (g : Nat) (s0_0 : List Int) (s0_1 : Int) (a1 : Int) (r1 : Int) (r2 : Int) (w0 w : World) (hI : IsS74 w0 w g s0_0 s0_1) (hB : Below w0.heap.size w0 w) (h : spec_l6Rd_pick.f k s0_0 s0_1 a1 = some (r1, r2)) :
  Calls Tryd.prog 39 #[.pointer (some ⟨g, 0, none⟩), .int .i64 a1] w fun e w' => e = .returned (.int .i64 r1) ∧ IsS74 w0 w' g s0_0 r2 ∧ Below w0.heap.size w0 w' ∧ KeepBut w w' g none := by
 have HI0 := Aside0.mk hI
 have HK := Aside0.mk (KeepBut.refl w g none)
 have HL := Aside0.mk hB.size
 clear hI
 have HW0 := Aside0.mk hB.size
 have HB := Aside0.mk hB
 clear hB
 have H : (if a1 < 1 then (spec_l6Rd_pick.j0 k a1 true s0_0 (wrap64 (s0_1 + 1))) else (spec_l6Rd_pick.j0 k a1 ((s0_0.length : Int) == 0) s0_0 (wrap64 (s0_1 + 1)))) = some (r1, r2) := h
 clear h
 have HC3 := Aside0.mk H
 clear H
 obtain ⟨ASz4_0, cSz4_0, HGz4, hgz4, HSz4_0⟩ := HI0.out
 have hcz4_0 := cellS74_0 HGz4
 have hcz4_1 := cellS74_1 HGz4
 have hfz4_1 := blk_frozen HGz4 1
 clear HGz4 hgz4
 go_enter Tryd.func39, Tryd.ntmps39
 go_upto_region 2 with (fail)
 repeat (go_quiet (fail); go_upto_region 2 with (fail))
 go_cut [24] (fun v24 wc => ∃ (kq : Nat) (x24_2 : Bool), v24 = .bool x24_2 ∧ Aside0 (spec_l6Rd_pick.j0 kq a1 x24_2 s0_0 (wrap64 (s0_1 + 1)) = some (r1, r2)) ∧ Aside0 (kq ≤ k) ∧ Aside0 (IsS74 w0 wc g s0_0 (wrap64 (s0_1 + 1))) ∧ Aside0 (KeepBut w wc g none) ∧ Aside0 (Below w0.heap.size w0 wc))
 case first =>
  have H := HC3.out
  clear HC3
  by_cases c5 : a1 < 1
  ·rw [if_pos c5] at H
   have c5b0 : decide (a1 < 1) = true := decide_eq_true c5
   clear c5
   have H' := Aside0.mk H
   clear H
   go_wp2
   repeat (go_quiet (fail); try go_wp2)
   go_meet
   case rel => exact ⟨_, (true), (by rfl), H', ⟨by omega⟩, ⟨by repeat (first | (with_reducible first | exact HI0.out | apply IsS74.set_1))⟩, ⟨by repeat (first | (with_reducible first | exact HK.out | apply KeepBut.set_))⟩, ⟨by repeat (first | (with_reducible first | exact HB.out | refine below_set ?_ (IsS74.ge HI0.out)))⟩⟩
  ·rw [if_neg c5] at H
   have c5b0 : decide (a1 < 1) = false := decide_eq_false c5
   clear c5
   have H' := Aside0.mk H
   clear H
   obtain ⟨ASz6_0, cSz6_0, HGz6, hgz6, HSz6_0⟩ := HI0.out
   have hcz6_0 := cellS74_0 HGz6
   have hcz6_1 := cellS74_1 HGz6
   have hfz6_1 := blk_frozen HGz6 1
   clear HGz6 hgz6
   go_wp2
   repeat (go_quiet (fail); try go_wp2)
   go_meet
   case rel => exact ⟨_, (((s0_0.length : Int) == 0)), (by rfl), H', ⟨by omega⟩, ⟨by repeat (first | (with_reducible first | exact HI0.out | apply IsS74.set_1))⟩, ⟨by repeat (first | (with_reducible first | exact HK.out | apply KeepBut.set_))⟩, ⟨by repeat (first | (with_reducible first | exact HB.out | refine below_set ?_ (IsS74.ge HI0.out)))⟩⟩
 case rest =>
  clear HC3
  try clear hcz4_0
  try clear hcz4_1
  try clear hfz4_1
  obtain ⟨kq, x24_2, rfl, HA, HJ2, HI0, HK, HB⟩ := hcut
  cases kq with
  | zero => exact absurd HA.out (by simp [spec_l6Rd_pick.j0])
  | succ kj2 =>
   have H := HA.out
   clear HA
   simp only [spec_l6Rd_pick.j0] at H
   by_cases c7 : x24_2 = true
   ·subst c7
    replace H : (some (0, (wrap64 (s0_1 + 1)))) = some (r1, r2) := by rw [if_pos rfl] at H; exact H
    simp only [Option.some.injEq, Prod.mk.injEq] at H
    obtain ⟨rfl, rfl⟩ := H
    go_wp2
    repeat (go_quiet (fail); try go_wp2)
    go_ret
    exact ⟨by first | rfl | (simp [*, errW_none, errW_some] <;> rfl), HI0.out, HB.out, HK.out⟩
   ·replace c7 := Bool.eq_false_iff.mpr c7
    subst c7
    replace H : (if (wrap64 ((wrap64 (s0_1 + 1)) - 1)) < (s0_0.length : Int) then (if 0 ≤ (wrap64 ((wrap64 (s0_1 + 1)) - 1)) then (if a1 = 0 then (none) else (some (Int.tmod (wrap64 (rd s0_0 (wrap64 ((wrap64 (s0_1 + 1)) - 1)))) a1, (wrap64 (s0_1 + 1))))) else (none)) else (if (s0_0.length : Int) = 0 then (none) else (if 0 ≤ (Int.tmod (wrap64 ((wrap64 (s0_1 + 1)) - 1)) (s0_0.length : Int)) then (if (Int.tmod (wrap64 ((wrap64 (s0_1 + 1)) - 1)) (s0_0.length : Int)) < (s0_0.length : Int) then (if 0 ≤ (Int.tmod (wrap64 ((wrap64 ((wrap64 ((wrap64 (s0_1 + 1)) - 1)) * 7)) + 3)) (s0_0.length : Int)) then (if (Int.tmod (wrap64 ((wrap64 ((wrap64 ((wrap64 (s0_1 + 1)) - 1)) * 7)) + 3)) (s0_0.length : Int)) < (s0_0.length : Int) then (if a1 = 0 then (none) else (some (Int.tmod (Go.bits .xor .i64 (wrap64 ((wrap64 ((wrap64 ((wrap64 ((wrap64 (rd s0_0 (Int.tmod (wrap64 ((wrap64 (s0_1 + 1)) - 1)) (s0_0.length : Int)))) * 131)) + (wrap64 ((wrap64 (rd s0_0 (Int.tmod (wrap64 ((wrap64 ((wrap64 ((wrap64 (s0_1 + 1)) - 1)) * 7)) + 3)) (s0_0.length : Int)))) * 1117)))) + (wrap64 ((wrap64 ((wrap64 (s0_1 + 1)) - 1)) * 29)))) + (wrap64 ((wrap64 (Int.tdiv (wrap64 ((wrap64 (s0_1 + 1)) - 1)) (s0_0.length : Int))) * 53)))) (wrap64 (Int.tdiv (wrap64 ((wrap64 ((wrap64 ((wrap64 ((wrap64 (rd s0_0 (Int.tmod (wrap64 ((wrap64 (s0_1 + 1)) - 1)) (s0_0.length : Int)))) * 131)) + (wrap64 ((wrap64 (rd s0_0 (Int.tmod (wrap64 ((wrap64 ((wrap64 ((wrap64 (s0_1 + 1)) - 1)) * 7)) + 3)) (s0_0.length : Int)))) * 1117)))) + (wrap64 ((wrap64 ((wrap64 (s0_1 + 1)) - 1)) * 29)))) + (wrap64 ((wrap64 (Int.tdiv (wrap64 ((wrap64 (s0_1 + 1)) - 1)) (s0_0.length : Int))) * 53)))) 64))) a1, (wrap64 (s0_1 + 1))))) else (none)) else (none)) else (none)) else (none)))) = some (r1, r2) := by rw [if_neg (show ¬ (false = true) by decide)] at H; exact H
    by_cases c8 : (wrap64 ((wrap64 (s0_1 + 1)) - 1)) < (s0_0.length : Int)
    ·rw [if_pos c8] at H
     have c8b0 : decide ((wrap64 ((wrap64 (s0_1 + 1)) - 1)) < (s0_0.length : Int)) = true := decide_eq_true c8
     clear c8
     obtain ⟨ji9, hji9⟩ : ∃ j_ : Int, (wrap64 ((wrap64 (s0_1 + 1)) - 1)) = j_ := ⟨_, rfl⟩
     replace H : (if 0 ≤ (ji9) then (if a1 = 0 then (none) else (some (Int.tmod (wrap64 (rd s0_0 (ji9))) a1, (wrap64 (s0_1 + 1))))) else (none)) = some (r1, r2) := by first | (rw [hji9] at H; exact H)
     (try rw [hji9] at c8b0)
     have hji9w : (IntKind.i64.wrap ((wrap64 (s0_1 + 1)) - 1)) = ji9 := (i64_w _).trans hji9
     by_cases c10 : 0 ≤ (ji9)
     ·rw [if_pos c10] at H
      have c10b0 : decide (0 ≤ (ji9)) = true := decide_eq_true c10
      clear c10
      by_cases c11 : a1 = 0
      ·rw [if_pos c11] at H
       exact absurd H (by simp)
      ·rw [if_neg c11] at H
       have c11b0 : (a1 == 0) = false := beq_eq_false_iff_ne.mpr c11
       have c11b1 : (a1 != 0) = true := bne_iff_ne.mpr c11
       simp only [Option.some.injEq, Prod.mk.injEq] at H
       obtain ⟨rfl, rfl⟩ := H
       obtain ⟨ASz12_0, cSz12_0, HGz12, hgz12, HSz12_0⟩ := HI0.out
       have hcz12_0 := cellS74_0 HGz12
       have hcz12_1 := cellS74_1 HGz12
       have hfz12_1 := blk_frozen HGz12 1
       clear HGz12 hgz12
       have p104 : 0 ≤ ((ji9) : Int) := of_decide_eq_true (by (with_reducible assumption))
       have q104 : (ji9) < (s0_0.length : Int) := of_decide_eq_true (by (with_reducible assumption))
       obtain ⟨ad104, e104, hx104_0⟩ := Kd.at_int HSz12_0 (ji9) p104 q104
       cases e104
       replace hx104_0 := pw_cell_below HB.out hx104_0
       replace p104 := eq_true p104
       replace q104 := eq_true q104
       go_wp2
       repeat (go_quiet (fail); try go_wp2)
       go_ret
       exact ⟨by first | rfl | (simp [*, errW_none, errW_some] <;> rfl), HI0.out, HB.out, HK.out⟩
     ·rw [if_neg c10] at H
      exact absurd H (by simp)
    ·rw [if_neg c8] at H
     have c8b0 : decide ((wrap64 ((wrap64 (s0_1 + 1)) - 1)) < (s0_0.length : Int)) = false := decide_eq_false c8
     clear c8
     by_cases c13 : (s0_0.length : Int) = 0
     ·rw [if_pos c13] at H
      exact absurd H (by simp)
     ·rw [if_neg c13] at H
      have c13b0 : ((s0_0.length : Int) == 0) = false := beq_eq_false_iff_ne.mpr c13
      have c13b1 : ((s0_0.length : Int) != 0) = true := bne_iff_ne.mpr c13
      have c13b2 : ¬ (s0_0 = []) := fun h_ => c13 (by rw [h_]; rfl)
      obtain ⟨ji14, hji14⟩ : ∃ j_ : Int, (Int.tmod (wrap64 ((wrap64 (s0_1 + 1)) - 1)) (s0_0.length : Int)) = j_ := ⟨_, rfl⟩
      replace H : (if 0 ≤ (ji14) then (if (ji14) < (s0_0.length : Int) then (if 0 ≤ (Int.tmod (wrap64 ((wrap64 ((wrap64 ((wrap64 (s0_1 + 1)) - 1)) * 7)) + 3)) (s0_0.length : Int)) then (if (Int.tmod (wrap64 ((wrap64 ((wrap64 ((wrap64 (s0_1 + 1)) - 1)) * 7)) + 3)) (s0_0.length : Int)) < (s0_0.length : Int) then (if a1 = 0 then (none) else (some (Int.tmod (Go.bits .xor .i64 (wrap64 ((wrap64 ((wrap64 ((wrap64 ((wrap64 (rd s0_0 (ji14))) * 131)) + (wrap64 ((wrap64 (rd s0_0 (Int.tmod (wrap64 ((wrap64 ((wrap64 ((wrap64 (s0_1 + 1)) - 1)) * 7)) + 3)) (s0_0.length : Int)))) * 1117)))) + (wrap64 ((wrap64 ((wrap64 (s0_1 + 1)) - 1)) * 29)))) + (wrap64 ((wrap64 (Int.tdiv (wrap64 ((wrap64 (s0_1 + 1)) - 1)) (s0_0.length : Int))) * 53)))) (wrap64 (Int.tdiv (wrap64 ((wrap64 ((wrap64 ((wrap64 ((wrap64 (rd s0_0 (ji14))) * 131)) + (wrap64 ((wrap64 (rd s0_0 (Int.tmod (wrap64 ((wrap64 ((wrap64 ((wrap64 (s0_1 + 1)) - 1)) * 7)) + 3)) (s0_0.length : Int)))) * 1117)))) + (wrap64 ((wrap64 ((wrap64 (s0_1 + 1)) - 1)) * 29)))) + (wrap64 ((wrap64 (Int.tdiv (wrap64 ((wrap64 (s0_1 + 1)) - 1)) (s0_0.length : Int))) * 53)))) 64))) a1, (wrap64 (s0_1 + 1))))) else (none)) else (none)) else (none)) else (none)) = some (r1, r2) := by first | (rw [hji14] at H; exact H)
      by_cases c15 : 0 ≤ (ji14)
      ·rw [if_pos c15] at H
       have c15b0 : decide (0 ≤ (ji14)) = true := decide_eq_true c15
       clear c15
       by_cases c16 : (ji14) < (s0_0.length : Int)
       ·rw [if_pos c16] at H
        have c16b0 : decide ((ji14) < (s0_0.length : Int)) = true := decide_eq_true c16
        clear c16
        obtain ⟨ji17, hji17⟩ : ∃ j_ : Int, (Int.tmod (wrap64 ((wrap64 ((wrap64 ((wrap64 (s0_1 + 1)) - 1)) * 7)) + 3)) (s0_0.length : Int)) = j_ := ⟨_, rfl⟩
        replace H : (if 0 ≤ (ji17) then (if (ji17) < (s0_0.length : Int) then (if a1 = 0 then (none) else (some (Int.tmod (Go.bits .xor .i64 (wrap64 ((wrap64 ((wrap64 ((wrap64 ((wrap64 (rd s0_0 (ji14))) * 131)) + (wrap64 ((wrap64 (rd s0_0 (ji17))) * 1117)))) + (wrap64 ((wrap64 ((wrap64 (s0_1 + 1)) - 1)) * 29)))) + (wrap64 ((wrap64 (Int.tdiv (wrap64 ((wrap64 (s0_1 + 1)) - 1)) (s0_0.length : Int))) * 53)))) (wrap64 (Int.tdiv (wrap64 ((wrap64 ((wrap64 ((wrap64 ((wrap64 (rd s0_0 (ji14))) * 131)) + (wrap64 ((wrap64 (rd s0_0 (ji17))) * 1117)))) + (wrap64 ((wrap64 ((wrap64 (s0_1 + 1)) - 1)) * 29)))) + (wrap64 ((wrap64 (Int.tdiv (wrap64 ((wrap64 (s0_1 + 1)) - 1)) (s0_0.length : Int))) * 53)))) 64))) a1, (wrap64 (s0_1 + 1))))) else (none)) else (none)) = some (r1, r2) := by first | (rw [hji17] at H; exact H)
        by_cases c18 : 0 ≤ (ji17)
        ·rw [if_pos c18] at H
         have c18b0 : decide (0 ≤ (ji17)) = true := decide_eq_true c18
         clear c18
         by_cases c19 : (ji17) < (s0_0.length : Int)
         ·rw [if_pos c19] at H
          have c19b0 : decide ((ji17) < (s0_0.length : Int)) = true := decide_eq_true c19
          clear c19
          by_cases c20 : a1 = 0
          ·rw [if_pos c20] at H
           exact absurd H (by simp)
          ·rw [if_neg c20] at H
           have c20b0 : (a1 == 0) = false := beq_eq_false_iff_ne.mpr c20
           have c20b1 : (a1 != 0) = true := bne_iff_ne.mpr c20
           simp only [Option.some.injEq, Prod.mk.injEq] at H
           obtain ⟨rfl, rfl⟩ := H
           obtain ⟨ASz21_0, cSz21_0, HGz21, hgz21, HSz21_0⟩ := HI0.out
           have hcz21_0 := cellS74_0 HGz21
           have hcz21_1 := cellS74_1 HGz21
           have hfz21_1 := blk_frozen HGz21 1
           clear HGz21 hgz21
           have p105 : 0 ≤ ((ji14) : Int) := of_decide_eq_true (by (with_reducible assumption))
           have q105 : (ji14) < (s0_0.length : Int) := of_decide_eq_true (by (with_reducible assumption))
           obtain ⟨ad105, e105, hx105_0⟩ := Kd.at_int HSz21_0 (ji14) p105 q105
           cases e105
           replace hx105_0 := pw_cell_below HB.out hx105_0
           replace p105 := eq_true p105
           replace q105 := eq_true q105
           have p106 : 0 ≤ ((ji17) : Int) := of_decide_eq_true (by (with_reducible assumption))
           have q106 : (ji17) < (s0_0.length : Int) := of_decide_eq_true (by (with_reducible assumption))
           obtain ⟨ad106, e106, hx106_0⟩ := Kd.at_int HSz21_0 (ji17) p106 q106
           obtain rfl : ad105 = ad106 := (by injection e106)
           replace hx106_0 := pw_cell_below HB.out hx106_0
           replace p106 := eq_true p106
           replace q106 := eq_true q106
           go_wp2
           repeat (go_quiet (fail); try go_wp2)
           go_ret
           exact ⟨by first | rfl | (simp [*, errW_none, errW_some] <;> rfl), by repeat (first | (with_reducible first | exact HI0.out | apply IsS74.drewN)), by repeat (first | (with_reducible first | exact HB.out | apply pw_below_drewN)), by repeat (first | (with_reducible first | exact HK.out | apply keep_drewN))⟩
         ·rw [if_neg c19] at H
          exact absurd H (by simp)
        ·rw [if_neg c18] at H
         exact absurd H (by simp)
       ·rw [if_neg c16] at H
        exact absurd H (by simp)
      ·rw [if_neg c15] at H
       exact absurd H (by simp)


def spec_l91Signs.l0 : Nat → List Int → Int → List Int → Int → Option (ByteArray × Int)
 | 0, _, _, _, _ => none
 | k + 1, x7, x8, x1000, x1001 => if x8 > 0 then ((spec_l6Rd_pick.f k x1000 x1001 2).bind fun bt112 => (if x7.length < 140737488355328 then (spec_l91Signs.l0 k (x7 ++ [(wrap64 (48 + bt112.1)) % 256]) (wrap64 (x8 - 1)) x1000 bt112.2) else (none))) else (some (strOfNums x7, x1001))
def spec_l91Signs.f (k : Nat) (s0_0 : List Int) (s0_1 : Int) (a1 : Int) (a2 : Int) : Option (ByteArray × Int) := (spec_l6Rd_pick.f k s0_0 s0_1 a2).bind fun bt110 => (spec_l91Signs.l0 k (([] : List Int)) (wrap64 (a1 + bt110.1)) s0_0 bt110.2)
theorem spec_l91Signs.mono_l : ∀ k, (∀ y0 y1 y2 y3, LeO (spec_l91Signs.l0 k y0 y1 y2 y3) (spec_l91Signs.l0 (k + 1) y0 y1 y2 y3))
 | 0 => fun _ _ _ _ r h => by simp [spec_l91Signs.l0] at h
 | k + 1 => by
  have ih0 := spec_l91Signs.mono_l k
  ·intro y0 y1 y2 y3
   unfold spec_l91Signs.l0
   repeat' first | (with_reducible exact ih0 _ _ _ _) | (with_reducible exact spec_l6Rd_pick.mono _ _ _ _) | (with_reducible exact LeO.refl _) | (with_reducible refine LeO.ite ?_ ?_) | (with_reducible refine LeO.bind ?_ (fun _ => ?_))
theorem spec_l91Signs.mono : ∀ a0 a1 a2 a3 k, LeO (spec_l91Signs.f k a0 a1 a2 a3) (spec_l91Signs.f (k + 1) a0 a1 a2 a3) := by
 intro a0 a1 a2 a3 k
 have ih0 := spec_l91Signs.mono_l k
 unfold spec_l91Signs.f
 repeat' first | (with_reducible exact ih0 _ _ _ _) | (with_reducible exact spec_l6Rd_pick.mono _ _ _ _) | (with_reducible refine LeO.bind ?_ (fun _ => ?_))
set_option maxHeartbeats 8000000 in
set_option maxRecDepth 100000 in
theorem spec_l91Signs.calls (k : Nat) (g : Nat) (s0_0 : List Int) (s0_1 : Int) (a1 : Int) (a2 : Int) (r1 : ByteArray) (r2 : Int) (w0 w : World) (hI : IsS74 w0 w g s0_0 s0_1) (hB : Below w0.heap.size w0 w) (h : spec_l91Signs.f k s0_0 s0_1 a1 a2 = some (r1, r2)) :
  Calls Tryd.prog 65 #[.pointer (some ⟨g, 0, none⟩), .int .i64 a1, .int .i64 a2] w fun e w' => e = .returned (.string r1) ∧ IsS74 w0 w' g s0_0 r2 ∧ Below w0.heap.size w0 w' ∧ KeepBut w w' g none := by
 have HI0 := Aside0.mk hI
 have HK := Aside0.mk (KeepBut.refl w g none)
 have HL := Aside0.mk hB.size
 clear hI
 have HW0 := Aside0.mk hB.size
 have HB := Aside0.mk hB
 clear hB
 have H : ((spec_l6Rd_pick.f k s0_0 s0_1 a2).bind fun bt110 => (spec_l91Signs.l0 k (([] : List Int)) (wrap64 (a1 + bt110.1)) s0_0 bt110.2)) = some (r1, r2) := h
 clear h
 obtain ⟨y107, hy107⟩ : ∃ y_ : List Int, y_ = (([] : List Int)) := ⟨_, rfl⟩
 replace H : ((spec_l6Rd_pick.f k s0_0 s0_1 a2).bind fun bt110 => (spec_l91Signs.l0 k y107 (wrap64 (a1 + bt110.1)) s0_0 bt110.2)) = some (r1, r2) := by first | (rw [hy107]; with_reducible exact H)
 have Ny107 := Aside0.mk hy107
 clear hy107
 replace H := Option.bind_eq_some_iff.mp H
 obtain ⟨⟨t110, t111⟩, A40, H⟩ := H
 replace H : (spec_l91Signs.l0 k y107 (wrap64 (a1 + t110)) s0_0 t111) = some (r1, r2) := H
 have A4 := Aside0.mk A40
 clear A40
 have H' := Aside0.mk H
 clear H
 go_enter Tryd.func65, Tryd.ntmps65
 go_wp2_with (first | ((with_reducible refine gate_dst (N := 9) rfl ?_); refine Kd.R_lit (Kd.int .u8) _ 5 ?hg (N := 9) ?hd (xs := ([] : List Int)) (inner := []) (ok := fun _ => True) (okp := fun _ => True) ?hr ?hp (fun _ hk => hk) trivial (Below.refl _ _) (Nat.le_refl _) (by simp) ?_; (case hd => rfl); (case hg => rfl); (case hr => first | (go_simp; done)); (case hp => exact (Reps.none _ _)); intro v108 w5 ho6 hb hg_ hnew_; clear hg_ hnew_; (rw [← Ny107.out] at ho6); have HO109 := Aside0.mk (Kd.R_lower ho6 (keep_size (w := w) (g := g) (row := none) HK.out)); replace HI0 := Aside0.mk (IsS74.below HI0.out hb); replace HK := Aside0.mk (KeepBut.trans HK.out (KeepBut.of_below hb g none) (.inl rfl)); replace HB := Aside0.mk (below_step HB.out hb); clear hb ho6) | ((with_reducible refine gate_callee (f := 39) rfl ?_); refine goesL_ (some 13) rfl rfl Tryd.func39 (by kernel_rfl) rfl #[.pointer (some ⟨g, 0, none⟩), .int .i64 a2] rfl (by (try simp only [List.map_toArray, List.map_cons, List.map_nil]); rfl) ?_; (with_reducible refine (spec_l6Rd_pick.calls k g s0_0 s0_1 a2 t110 t111 w0 _ ?side1 ?side2 A4.out).mono ?_); (case side1 => repeat ((with_reducible exact HI0.out))); (case side2 => repeat ((with_reducible exact HB.out))); rintro e w7 ⟨rfl, hi, hb, hk⟩; refine ⟨_, rfl, ?_⟩; replace HO109 := Aside0.mk (Kd.R_mono (Kd.R_keep (IsS74.apart (show IsS74 w0 _ g s0_0 s0_1 from by repeat ((with_reducible exact HI0.out))) HO109.out (by decide)) hk (fun _ h => h.2)) (fun _ h => h.1)); replace HK := Aside0.mk (KeepBut.trans HK.out hk (.inl rfl)); replace HB := Aside0.mk hb; replace HI0 := Aside0.mk hi; (try clear hb); (try clear hk); (try clear hi)))
 go_loopg [7, 8] k (fun kq v7 v8 w' => ∃ (x7_1 : List Int) (x8_1 : Int) (x1001_1 : Int), v8 = .int .i64 x8_1 ∧ Aside0 (spec_l91Signs.l0 kq x7_1 x8_1 s0_0 x1001_1 = some (r1, r2)) ∧ Aside0 (kq ≤ k) ∧ Aside0 (Kd.R (Kd.int .u8) 5 w' w.heap.size (fun _ => True) v7 x7_1) ∧ Aside0 (IsS74 w0 w' g s0_0 x1001_1) ∧ Aside0 (KeepBut w w' g none) ∧ Aside0 (Below w0.heap.size w0 w'))
 case atStart => exact ⟨(y107), (wrap64 (a1 + t110)), (t111), (by rfl), H', ⟨Nat.le_refl _⟩, ⟨by exact HO109.out⟩, ⟨HI0.out⟩, ⟨HK.out⟩, ⟨HB.out⟩⟩
 case round =>
  clear H'
  obtain ⟨x7_1, x8_1, x1001_1, rfl, HA, HK1, HO_7, HI0, HK, HB⟩ := hrel
  cases gk with
  | zero => exact absurd HA.out (by simp [spec_l91Signs.l0])
  | succ k1 =>
   have H := HA.out
   clear HA
   simp only [spec_l91Signs.l0] at H
   by_cases c8 : x8_1 > 0
   ·rw [if_pos c8] at H
    have c8b0 : decide (0 < x8_1) = true := decide_eq_true c8
    clear c8
    replace H := Option.bind_eq_some_iff.mp H
    obtain ⟨⟨t112, t113⟩, A90, H⟩ := H
    replace H : (if x7_1.length < 140737488355328 then (spec_l91Signs.l0 k1 (x7_1 ++ [(wrap64 (48 + t112)) % 256]) (wrap64 (x8_1 - 1)) s0_0 t113) else (none)) = some (r1, r2) := H
    have A9 := Aside0.mk A90
    clear A90
    by_cases c10 : x7_1.length < 140737488355328
    ·rw [if_pos c10] at H
     have LMc10 := Aside0.mk c10
     clear c10
     obtain ⟨y114, hy114⟩ : ∃ y_ : List Int, y_ = (x7_1 ++ [(wrap64 (48 + t112)) % 256]) := ⟨_, rfl⟩
     replace H : (spec_l91Signs.l0 k1 y114 (wrap64 (x8_1 - 1)) s0_0 t113) = some (r1, r2) := by first | (rw [hy114]; with_reducible exact H)
     have Ny114 := Aside0.mk hy114
     clear hy114
     have H' := Aside0.mk H
     clear H
     go_wp2_with (first | ((with_reducible refine gate_callee (f := 39) rfl ?_); refine goesL_ (some 21) rfl rfl Tryd.func39 (by kernel_rfl) rfl #[.pointer (some ⟨g, 0, none⟩), .int .i64 2] rfl (by (try simp only [List.map_toArray, List.map_cons, List.map_nil]); rfl) ?_; (with_reducible refine (spec_l6Rd_pick.calls k1 g s0_0 x1001_1 2 t112 t113 w0 _ ?side1 ?side2 A9.out).mono ?_); (case side1 => repeat ((with_reducible exact HI0.out))); (case side2 => repeat ((with_reducible exact HB.out))); rintro e w11 ⟨rfl, hi, hb, hk⟩; refine ⟨_, rfl, ?_⟩; replace HO_7 := Aside0.mk (Kd.R_mono (Kd.R_keep (IsS74.apart (show IsS74 w0 _ g s0_0 x1001_1 from by repeat ((with_reducible exact HI0.out))) HO_7.out (by decide)) hk (fun _ h => h.2)) (fun _ h => h.1)); replace HK := Aside0.mk (KeepBut.trans HK.out hk (.inl rfl)); replace HB := Aside0.mk hb; replace HI0 := Aside0.mk hi; (try clear hb); (try clear hk); (try clear hi)) | ((with_reducible refine gate_builtin (b := .append) (xs := #[.tmp 19, .tmp 24]) rfl ?_); at_builtin; refine Kd.R_append (Kd.int .u8) w.heap.size rfl (.tmp 19) (.tmp 24) 22 5 (.int .u8 0) 1 rfl Tryd.underlying22 info5 rfl (by decide) (by omega) u7 x7_1 ((wrap64 (48 + t112)) % 256) [.int .u8 ((wrap64 (48 + t112)) % 256)] (fun _ => True) (fun _ => False) rfl rfl ?aP (fun _ hk => hk.elim) ?aF ?aO (Below.refl _ _) ?aS ?aL ?_; (case aP => exact rfl); (case aF => exact (fun _ _ => trivial)); (case aO => exact HO_7.out); (case aS => exact (keep_size (w := w) (g := g) (row := none) HK.out)); (case aL => have := LMc10.out; omega); intro v115 w12 ho hb hg hat; rw [← Ny114.out] at ho; replace HI0 := Aside0.mk (IsS74.grown HI0.out hg (IsS74.own_ne HI0.out HO_7.out (by decide))); replace HB := Aside0.mk (below_weaken HB.out HL.out hb); replace HK := Aside0.mk (KeepBut.trans HK.out (KeepBut.of_grown hg g) (Kd.R_base2 HO_7.out)); have HO116 := Aside0.mk ho; clear HO_7; clear ho hb hg hat))
     go_roundg k1
     case measure => have := HK1.out; omega
     case rel => exact ⟨(y114), (wrap64 (x8_1 - 1)), (t113), (by rfl), H', ⟨by have := HK1.out; omega⟩, ⟨by exact HO116.out⟩, ⟨HI0.out⟩, ⟨HK.out⟩, ⟨HB.out⟩⟩
    ·rw [if_neg c10] at H
     exact absurd H (by simp)
   ·rw [if_neg c8] at H
    have c8b0 : decide (0 < x8_1) = false := decide_eq_false c8
    clear c8
    simp only [Option.some.injEq, Prod.mk.injEq] at H
    obtain ⟨rfl, rfl⟩ := H
    have hcv13 := own_string (P := Tryd.prog) Tryd.underlying22 Tryd.underlying5 Tryd.underlying9 (Kd.own_of_R HO_7.out)
    go_wp2
    go_ret
    exact ⟨by first | rfl | (simp [*, errW_none, errW_some] <;> rfl), HI0.out, HB.out, HK.out⟩


def spec_l91Set.f (k : Nat) (s0_0 : List Int) (s0_1 : Int) : Option (ByteArray × Int) := (spec_l91Signs.f k s0_0 s0_1 0 6).bind fun bt117 => (if bt117.1.size + 1 ≤ 9223372036854775807 then ((spec_l91Signs.f k s0_0 bt117.2 1 5).bind fun bt119 => (if bt117.1.size + 1 + bt119.1.size ≤ 9223372036854775807 then (if bt117.1.size + 1 + bt119.1.size + 1 ≤ 9223372036854775807 then ((spec_l6Rd_pick.f k s0_0 bt119.2 24).bind fun bt121 => (if bt121.1 = 0 then ((some (([(⟨#[]⟩ : ByteArray), (⟨#[48]⟩ : ByteArray), (⟨#[40, 41]⟩ : ByteArray), (⟨#[49, 40]⟩ : ByteArray), (⟨#[40, 48, 41, 41]⟩ : ByteArray), (⟨#[97, 40, 49, 41]⟩ : ByteArray), (⟨#[40, 49, 41, 48]⟩ : ByteArray), (⟨#[48, 49, 40, 48, 50, 41]⟩ : ByteArray), (⟨#[48, 40, 40, 49, 41]⟩ : ByteArray)] : List ByteArray) : List ByteArray)).bind fun y123 => ((spec_l6Rd_pick.f k s0_0 bt121.2 9).bind fun bt126 => (if 0 ≤ bt126.1 then (if bt126.1 < (y123.length : Int) then (some (rdOf ByteArray.empty y123 bt126.1, bt126.2)) else (none)) else (none)))) else (if bt121.1 = 1 then ((spec_l91Signs.f k s0_0 bt121.2 0 6).bind fun bt129 => (if bt129.1.size + 3 ≤ 9223372036854775807 then (some (bt129.1 ++ (⟨#[40, 48, 41]⟩ : ByteArray), bt129.2)) else (none))) else (if bt121.1 = 2 then (if 1 ≤ ((((bt117.1 ++ (⟨#[40]⟩ : ByteArray)) ++ bt119.1) ++ (⟨#[41]⟩ : ByteArray)).size : Int) then (if 1 + ((((bt117.1 ++ (⟨#[40]⟩ : ByteArray)) ++ bt119.1) ++ (⟨#[41]⟩ : ByteArray)).extract 1 (((bt117.1 ++ (⟨#[40]⟩ : ByteArray)) ++ bt119.1) ++ (⟨#[41]⟩ : ByteArray)).size).size ≤ 9223372036854775807 then (some ((⟨#[40]⟩ : ByteArray) ++ ((((bt117.1 ++ (⟨#[40]⟩ : ByteArray)) ++ bt119.1) ++ (⟨#[41]⟩ : ByteArray)).extract 1 (((bt117.1 ++ (⟨#[40]⟩ : ByteArray)) ++ bt119.1) ++ (⟨#[41]⟩ : ByteArray)).size), bt121.2)) else (none)) else (none)) else (some (((bt117.1 ++ (⟨#[40]⟩ : ByteArray)) ++ bt119.1) ++ (⟨#[41]⟩ : ByteArray), bt121.2)))))) else (none)) else (none))) else (none))
theorem spec_l91Set.mono : ∀ a0 a1 k, LeO (spec_l91Set.f k a0 a1) (spec_l91Set.f (k + 1) a0 a1) := by
 intro a0 a1 k
 unfold spec_l91Set.f
 repeat' first | (with_reducible exact spec_l6Rd_pick.mono _ _ _ _) | (with_reducible exact spec_l91Signs.mono _ _ _ _ _) | (with_reducible exact LeO.refl _) | (with_reducible refine LeO.ite ?_ ?_) | (with_reducible refine LeO.bind ?_ (fun _ => ?_))
set_option maxHeartbeats 8000000 in
set_option maxRecDepth 100000 in
theorem spec_l91Set.calls (k : Nat) (g : Nat) (s0_0 : List Int) (s0_1 : Int) (r1 : ByteArray) (r2 : Int) (w0 w : World) (hI : IsS74 w0 w g s0_0 s0_1) (hB : Below w0.heap.size w0 w) (h : spec_l91Set.f k s0_0 s0_1 = some (r1, r2)) :
  Calls Tryd.prog 38 #[.pointer (some ⟨g, 0, none⟩)] w fun e w' => e = .returned (.string r1) ∧ IsS74 w0 w' g s0_0 r2 ∧ Below w0.heap.size w0 w' ∧ KeepBut w w' g none := by
 have HI0 := Aside0.mk hI
 have HK := Aside0.mk (KeepBut.refl w g none)
 have HL := Aside0.mk hB.size
 clear hI
 have HW0 := Aside0.mk hB.size
 have HB := Aside0.mk hB
 clear hB
 have H : ((spec_l91Signs.f k s0_0 s0_1 0 6).bind fun bt117 => (if bt117.1.size + 1 ≤ 9223372036854775807 then ((spec_l91Signs.f k s0_0 bt117.2 1 5).bind fun bt119 => (if bt117.1.size + 1 + bt119.1.size ≤ 9223372036854775807 then (if bt117.1.size + 1 + bt119.1.size + 1 ≤ 9223372036854775807 then ((spec_l6Rd_pick.f k s0_0 bt119.2 24).bind fun bt121 => (if bt121.1 = 0 then ((some (([(⟨#[]⟩ : ByteArray), (⟨#[48]⟩ : ByteArray), (⟨#[40, 41]⟩ : ByteArray), (⟨#[49, 40]⟩ : ByteArray), (⟨#[40, 48, 41, 41]⟩ : ByteArray), (⟨#[97, 40, 49, 41]⟩ : ByteArray), (⟨#[40, 49, 41, 48]⟩ : ByteArray), (⟨#[48, 49, 40, 48, 50, 41]⟩ : ByteArray), (⟨#[48, 40, 40, 49, 41]⟩ : ByteArray)] : List ByteArray) : List ByteArray)).bind fun y123 => ((spec_l6Rd_pick.f k s0_0 bt121.2 9).bind fun bt126 => (if 0 ≤ bt126.1 then (if bt126.1 < (y123.length : Int) then (some (rdOf ByteArray.empty y123 bt126.1, bt126.2)) else (none)) else (none)))) else (if bt121.1 = 1 then ((spec_l91Signs.f k s0_0 bt121.2 0 6).bind fun bt129 => (if bt129.1.size + 3 ≤ 9223372036854775807 then (some (bt129.1 ++ (⟨#[40, 48, 41]⟩ : ByteArray), bt129.2)) else (none))) else (if bt121.1 = 2 then (if 1 ≤ ((((bt117.1 ++ (⟨#[40]⟩ : ByteArray)) ++ bt119.1) ++ (⟨#[41]⟩ : ByteArray)).size : Int) then (if 1 + ((((bt117.1 ++ (⟨#[40]⟩ : ByteArray)) ++ bt119.1) ++ (⟨#[41]⟩ : ByteArray)).extract 1 (((bt117.1 ++ (⟨#[40]⟩ : ByteArray)) ++ bt119.1) ++ (⟨#[41]⟩ : ByteArray)).size).size ≤ 9223372036854775807 then (some ((⟨#[40]⟩ : ByteArray) ++ ((((bt117.1 ++ (⟨#[40]⟩ : ByteArray)) ++ bt119.1) ++ (⟨#[41]⟩ : ByteArray)).extract 1 (((bt117.1 ++ (⟨#[40]⟩ : ByteArray)) ++ bt119.1) ++ (⟨#[41]⟩ : ByteArray)).size), bt121.2)) else (none)) else (none)) else (some (((bt117.1 ++ (⟨#[40]⟩ : ByteArray)) ++ bt119.1) ++ (⟨#[41]⟩ : ByteArray), bt121.2)))))) else (none)) else (none))) else (none))) = some (r1, r2) := h
 clear h
 replace H := Option.bind_eq_some_iff.mp H
 obtain ⟨⟨t117, t118⟩, A20, H⟩ := H
 replace H : (if t117.size + 1 ≤ 9223372036854775807 then ((spec_l91Signs.f k s0_0 t118 1 5).bind fun bt119 => (if t117.size + 1 + bt119.1.size ≤ 9223372036854775807 then (if t117.size + 1 + bt119.1.size + 1 ≤ 9223372036854775807 then ((spec_l6Rd_pick.f k s0_0 bt119.2 24).bind fun bt121 => (if bt121.1 = 0 then ((some (([(⟨#[]⟩ : ByteArray), (⟨#[48]⟩ : ByteArray), (⟨#[40, 41]⟩ : ByteArray), (⟨#[49, 40]⟩ : ByteArray), (⟨#[40, 48, 41, 41]⟩ : ByteArray), (⟨#[97, 40, 49, 41]⟩ : ByteArray), (⟨#[40, 49, 41, 48]⟩ : ByteArray), (⟨#[48, 49, 40, 48, 50, 41]⟩ : ByteArray), (⟨#[48, 40, 40, 49, 41]⟩ : ByteArray)] : List ByteArray) : List ByteArray)).bind fun y123 => ((spec_l6Rd_pick.f k s0_0 bt121.2 9).bind fun bt126 => (if 0 ≤ bt126.1 then (if bt126.1 < (y123.length : Int) then (some (rdOf ByteArray.empty y123 bt126.1, bt126.2)) else (none)) else (none)))) else (if bt121.1 = 1 then ((spec_l91Signs.f k s0_0 bt121.2 0 6).bind fun bt129 => (if bt129.1.size + 3 ≤ 9223372036854775807 then (some (bt129.1 ++ (⟨#[40, 48, 41]⟩ : ByteArray), bt129.2)) else (none))) else (if bt121.1 = 2 then (if 1 ≤ ((((t117 ++ (⟨#[40]⟩ : ByteArray)) ++ bt119.1) ++ (⟨#[41]⟩ : ByteArray)).size : Int) then (if 1 + ((((t117 ++ (⟨#[40]⟩ : ByteArray)) ++ bt119.1) ++ (⟨#[41]⟩ : ByteArray)).extract 1 (((t117 ++ (⟨#[40]⟩ : ByteArray)) ++ bt119.1) ++ (⟨#[41]⟩ : ByteArray)).size).size ≤ 9223372036854775807 then (some ((⟨#[40]⟩ : ByteArray) ++ ((((t117 ++ (⟨#[40]⟩ : ByteArray)) ++ bt119.1) ++ (⟨#[41]⟩ : ByteArray)).extract 1 (((t117 ++ (⟨#[40]⟩ : ByteArray)) ++ bt119.1) ++ (⟨#[41]⟩ : ByteArray)).size), bt121.2)) else (none)) else (none)) else (some (((t117 ++ (⟨#[40]⟩ : ByteArray)) ++ bt119.1) ++ (⟨#[41]⟩ : ByteArray), bt121.2)))))) else (none)) else (none))) else (none)) = some (r1, r2) := H
 have A2 := Aside0.mk A20
 clear A20
 by_cases c3 : t117.size + 1 ≤ 9223372036854775807
 ·rw [if_pos c3] at H
  have c3b0 := eq_true c3
  have c3b1 : decide (t117.size + 1 ≤ 9223372036854775807) = true := decide_eq_true c3
  try have c3b2 : (9223372036854775807 < t117.size + 1) = False := eq_false (Nat.not_lt.2 c3)
  replace H := Option.bind_eq_some_iff.mp H
  obtain ⟨⟨t119, t120⟩, A40, H⟩ := H
  replace H : (if t117.size + 1 + t119.size ≤ 9223372036854775807 then (if t117.size + 1 + t119.size + 1 ≤ 9223372036854775807 then ((spec_l6Rd_pick.f k s0_0 t120 24).bind fun bt121 => (if bt121.1 = 0 then ((some (([(⟨#[]⟩ : ByteArray), (⟨#[48]⟩ : ByteArray), (⟨#[40, 41]⟩ : ByteArray), (⟨#[49, 40]⟩ : ByteArray), (⟨#[40, 48, 41, 41]⟩ : ByteArray), (⟨#[97, 40, 49, 41]⟩ : ByteArray), (⟨#[40, 49, 41, 48]⟩ : ByteArray), (⟨#[48, 49, 40, 48, 50, 41]⟩ : ByteArray), (⟨#[48, 40, 40, 49, 41]⟩ : ByteArray)] : List ByteArray) : List ByteArray)).bind fun y123 => ((spec_l6Rd_pick.f k s0_0 bt121.2 9).bind fun bt126 => (if 0 ≤ bt126.1 then (if bt126.1 < (y123.length : Int) then (some (rdOf ByteArray.empty y123 bt126.1, bt126.2)) else (none)) else (none)))) else (if bt121.1 = 1 then ((spec_l91Signs.f k s0_0 bt121.2 0 6).bind fun bt129 => (if bt129.1.size + 3 ≤ 9223372036854775807 then (some (bt129.1 ++ (⟨#[40, 48, 41]⟩ : ByteArray), bt129.2)) else (none))) else (if bt121.1 = 2 then (if 1 ≤ ((((t117 ++ (⟨#[40]⟩ : ByteArray)) ++ t119) ++ (⟨#[41]⟩ : ByteArray)).size : Int) then (if 1 + ((((t117 ++ (⟨#[40]⟩ : ByteArray)) ++ t119) ++ (⟨#[41]⟩ : ByteArray)).extract 1 (((t117 ++ (⟨#[40]⟩ : ByteArray)) ++ t119) ++ (⟨#[41]⟩ : ByteArray)).size).size ≤ 9223372036854775807 then (some ((⟨#[40]⟩ : ByteArray) ++ ((((t117 ++ (⟨#[40]⟩ : ByteArray)) ++ t119) ++ (⟨#[41]⟩ : ByteArray)).extract 1 (((t117 ++ (⟨#[40]⟩ : ByteArray)) ++ t119) ++ (⟨#[41]⟩ : ByteArray)).size), bt121.2)) else (none)) else (none)) else (some (((t117 ++ (⟨#[40]⟩ : ByteArray)) ++ t119) ++ (⟨#[41]⟩ : ByteArray), bt121.2)))))) else (none)) else (none)) = some (r1, r2) := H
  have A4 := Aside0.mk A40
  clear A40
  by_cases c5 : t117.size + 1 + t119.size ≤ 9223372036854775807
  ·rw [if_pos c5] at H
   have c5b0 := eq_true c5
   have c5b1 : decide (t117.size + 1 + t119.size ≤ 9223372036854775807) = true := decide_eq_true c5
   try have c5b2 : (9223372036854775807 < t117.size + 1 + t119.size) = False := eq_false (Nat.not_lt.2 c5)
   by_cases c6 : t117.size + 1 + t119.size + 1 ≤ 9223372036854775807
   ·rw [if_pos c6] at H
    have c6b0 := eq_true c6
    have c6b1 : decide (t117.size + 1 + t119.size + 1 ≤ 9223372036854775807) = true := decide_eq_true c6
    try have c6b2 : (9223372036854775807 < t117.size + 1 + t119.size + 1) = False := eq_false (Nat.not_lt.2 c6)
    replace H := Option.bind_eq_some_iff.mp H
    obtain ⟨⟨t121, t122⟩, A70, H⟩ := H
    replace H : (if t121 = 0 then ((some (([(⟨#[]⟩ : ByteArray), (⟨#[48]⟩ : ByteArray), (⟨#[40, 41]⟩ : ByteArray), (⟨#[49, 40]⟩ : ByteArray), (⟨#[40, 48, 41, 41]⟩ : ByteArray), (⟨#[97, 40, 49, 41]⟩ : ByteArray), (⟨#[40, 49, 41, 48]⟩ : ByteArray), (⟨#[48, 49, 40, 48, 50, 41]⟩ : ByteArray), (⟨#[48, 40, 40, 49, 41]⟩ : ByteArray)] : List ByteArray) : List ByteArray)).bind fun y123 => ((spec_l6Rd_pick.f k s0_0 t122 9).bind fun bt126 => (if 0 ≤ bt126.1 then (if bt126.1 < (y123.length : Int) then (some (rdOf ByteArray.empty y123 bt126.1, bt126.2)) else (none)) else (none)))) else (if t121 = 1 then ((spec_l91Signs.f k s0_0 t122 0 6).bind fun bt129 => (if bt129.1.size + 3 ≤ 9223372036854775807 then (some (bt129.1 ++ (⟨#[40, 48, 41]⟩ : ByteArray), bt129.2)) else (none))) else (if t121 = 2 then (if 1 ≤ ((((t117 ++ (⟨#[40]⟩ : ByteArray)) ++ t119) ++ (⟨#[41]⟩ : ByteArray)).size : Int) then (if 1 + ((((t117 ++ (⟨#[40]⟩ : ByteArray)) ++ t119) ++ (⟨#[41]⟩ : ByteArray)).extract 1 (((t117 ++ (⟨#[40]⟩ : ByteArray)) ++ t119) ++ (⟨#[41]⟩ : ByteArray)).size).size ≤ 9223372036854775807 then (some ((⟨#[40]⟩ : ByteArray) ++ ((((t117 ++ (⟨#[40]⟩ : ByteArray)) ++ t119) ++ (⟨#[41]⟩ : ByteArray)).extract 1 (((t117 ++ (⟨#[40]⟩ : ByteArray)) ++ t119) ++ (⟨#[41]⟩ : ByteArray)).size), t122)) else (none)) else (none)) else (some (((t117 ++ (⟨#[40]⟩ : ByteArray)) ++ t119) ++ (⟨#[41]⟩ : ByteArray), t122))))) = some (r1, r2) := H
    have A7 := Aside0.mk A70
    clear A70
    by_cases c8 : t121 = 0
    ·rw [if_pos c8] at H
     have c8b0 : (t121 == 0) = true := beq_iff_eq.mpr c8
     have c8b1 : (t121 != 0) = false := bne_eq_false_iff_eq.mpr c8
     clear c8
     obtain ⟨y123, hy123⟩ : ∃ y_ : List ByteArray, y_ = (([(⟨#[]⟩ : ByteArray), (⟨#[48]⟩ : ByteArray), (⟨#[40, 41]⟩ : ByteArray), (⟨#[49, 40]⟩ : ByteArray), (⟨#[40, 48, 41, 41]⟩ : ByteArray), (⟨#[97, 40, 49, 41]⟩ : ByteArray), (⟨#[40, 49, 41, 48]⟩ : ByteArray), (⟨#[48, 49, 40, 48, 50, 41]⟩ : ByteArray), (⟨#[48, 40, 40, 49, 41]⟩ : ByteArray)] : List ByteArray)) := ⟨_, rfl⟩
     replace H : ((spec_l6Rd_pick.f k s0_0 t122 9).bind fun bt126 => (if 0 ≤ bt126.1 then (if bt126.1 < (y123.length : Int) then (some (rdOf ByteArray.empty y123 bt126.1, bt126.2)) else (none)) else (none))) = some (r1, r2) := by first | (have H2_ := (Option.bind_some _ _).symm.trans H; rw [hy123]; with_reducible exact H2_)
     have Ny123 := Aside0.mk hy123
     clear hy123
     replace H := Option.bind_eq_some_iff.mp H
     obtain ⟨⟨t126, t127⟩, A90, H⟩ := H
     replace H : (if 0 ≤ t126 then (if t126 < (y123.length : Int) then (some (rdOf ByteArray.empty y123 t126, t127)) else (none)) else (none)) = some (r1, r2) := H
     have A9 := Aside0.mk A90
     clear A90
     by_cases c10 : 0 ≤ t126
     ·rw [if_pos c10] at H
      have c10b0 : decide (0 ≤ t126) = true := decide_eq_true c10
      clear c10
      by_cases c11 : t126 < (y123.length : Int)
      ·rw [if_pos c11] at H
       have c11b0 : decide (t126 < (y123.length : Int)) = true := decide_eq_true c11
       clear c11
       simp only [Option.some.injEq, Prod.mk.injEq] at H
       obtain ⟨rfl, rfl⟩ := H
       go_enter Tryd.func38, Tryd.ntmps38
       go_wp2_with (first | ((with_reducible refine gate_callee (f := 65) rfl ?_); refine goesL_ (some 5) rfl rfl Tryd.func65 (by kernel_rfl) rfl #[.pointer (some ⟨g, 0, none⟩), .int .i64 0, .int .i64 6] rfl (by (try simp only [List.map_toArray, List.map_cons, List.map_nil]); rfl) ?_; (with_reducible refine (spec_l91Signs.calls k g s0_0 s0_1 0 6 t117 t118 w0 _ ?side1 ?side2 A2.out).mono ?_); (case side1 => repeat ((with_reducible exact HI0.out))); (case side2 => repeat ((with_reducible exact HB.out))); rintro e w12 ⟨rfl, hi, hb, hk⟩; refine ⟨_, rfl, ?_⟩; replace HK := Aside0.mk (KeepBut.trans HK.out hk (.inl rfl)); replace HB := Aside0.mk hb; replace HI0 := Aside0.mk hi; (try clear hb); (try clear hk); (try clear hi)) | ((with_reducible refine gate_callee (f := 65) rfl ?_); refine goesL_ (some 8) rfl rfl Tryd.func65 (by kernel_rfl) rfl #[.pointer (some ⟨g, 0, none⟩), .int .i64 1, .int .i64 5] rfl (by (try simp only [List.map_toArray, List.map_cons, List.map_nil]); rfl) ?_; (with_reducible refine (spec_l91Signs.calls k g s0_0 t118 1 5 t119 t120 w0 _ ?side1 ?side2 A4.out).mono ?_); (case side1 => repeat ((with_reducible exact HI0.out))); (case side2 => repeat ((with_reducible exact HB.out))); rintro e w13 ⟨rfl, hi, hb, hk⟩; refine ⟨_, rfl, ?_⟩; replace HK := Aside0.mk (KeepBut.trans HK.out hk (.inl rfl)); replace HB := Aside0.mk hb; replace HI0 := Aside0.mk hi; (try clear hb); (try clear hk); (try clear hi)) | ((with_reducible refine gate_callee (f := 39) rfl ?_); refine goesL_ (some 12) rfl rfl Tryd.func39 (by kernel_rfl) rfl #[.pointer (some ⟨g, 0, none⟩), .int .i64 24] rfl (by (try simp only [List.map_toArray, List.map_cons, List.map_nil]); rfl) ?_; (with_reducible refine (spec_l6Rd_pick.calls k g s0_0 t120 24 t121 t122 w0 _ ?side1 ?side2 A7.out).mono ?_); (case side1 => repeat ((with_reducible exact HI0.out))); (case side2 => repeat ((with_reducible exact HB.out))); rintro e w14 ⟨rfl, hi, hb, hk⟩; refine ⟨_, rfl, ?_⟩; replace HK := Aside0.mk (KeepBut.trans HK.out hk (.inl rfl)); replace HB := Aside0.mk hb; replace HI0 := Aside0.mk hi; (try clear hb); (try clear hk); (try clear hi)) | ((with_reducible refine gate_dst (N := 15) rfl ?_); refine Kd.R_lit Kd.string _ 9 ?hg (N := 15) ?hd (xs := ([(⟨#[]⟩ : ByteArray), (⟨#[48]⟩ : ByteArray), (⟨#[40, 41]⟩ : ByteArray), (⟨#[49, 40]⟩ : ByteArray), (⟨#[40, 48, 41, 41]⟩ : ByteArray), (⟨#[97, 40, 49, 41]⟩ : ByteArray), (⟨#[40, 49, 41, 48]⟩ : ByteArray), (⟨#[48, 49, 40, 48, 50, 41]⟩ : ByteArray), (⟨#[48, 40, 40, 49, 41]⟩ : ByteArray)] : List ByteArray)) (inner := [.string (⟨#[]⟩ : ByteArray), .string (⟨#[48]⟩ : ByteArray), .string (⟨#[40, 41]⟩ : ByteArray), .string (⟨#[49, 40]⟩ : ByteArray), .string (⟨#[40, 48, 41, 41]⟩ : ByteArray), .string (⟨#[97, 40, 49, 41]⟩ : ByteArray), .string (⟨#[40, 49, 41, 48]⟩ : ByteArray), .string (⟨#[48, 49, 40, 48, 50, 41]⟩ : ByteArray), .string (⟨#[48, 40, 40, 49, 41]⟩ : ByteArray)]) (ok := fun _ => True) (okp := fun _ => True) ?hr ?hp (fun _ hk => hk) trivial (Below.refl _ _) (Nat.le_refl _) (by simp) ?_; (case hd => rfl); (case hg => rfl); (case hr => first | (go_simp; done)); (case hp => exact (Reps.one (show Kd.M Kd.string _ _ _ (⟨#[]⟩ : ByteArray) [.string (⟨#[]⟩ : ByteArray)] from rfl) (Reps.one (show Kd.M Kd.string _ _ _ (⟨#[48]⟩ : ByteArray) [.string (⟨#[48]⟩ : ByteArray)] from rfl) (Reps.one (show Kd.M Kd.string _ _ _ (⟨#[40, 41]⟩ : ByteArray) [.string (⟨#[40, 41]⟩ : ByteArray)] from rfl) (Reps.one (show Kd.M Kd.string _ _ _ (⟨#[49, 40]⟩ : ByteArray) [.string (⟨#[49, 40]⟩ : ByteArray)] from rfl) (Reps.one (show Kd.M Kd.string _ _ _ (⟨#[40, 48, 41, 41]⟩ : ByteArray) [.string (⟨#[40, 48, 41, 41]⟩ : ByteArray)] from rfl) (Reps.one (show Kd.M Kd.string _ _ _ (⟨#[97, 40, 49, 41]⟩ : ByteArray) [.string (⟨#[97, 40, 49, 41]⟩ : ByteArray)] from rfl) (Reps.one (show Kd.M Kd.string _ _ _ (⟨#[40, 49, 41, 48]⟩ : ByteArray) [.string (⟨#[40, 49, 41, 48]⟩ : ByteArray)] from rfl) (Reps.one (show Kd.M Kd.string _ _ _ (⟨#[48, 49, 40, 48, 50, 41]⟩ : ByteArray) [.string (⟨#[48, 49, 40, 48, 50, 41]⟩ : ByteArray)] from rfl) (Reps.one (show Kd.M Kd.string _ _ _ (⟨#[48, 40, 40, 49, 41]⟩ : ByteArray) [.string (⟨#[48, 40, 40, 49, 41]⟩ : ByteArray)] from rfl) (Reps.none _ _))))))))))); intro v124 w15 ho16 hb hg_ hnew_; clear hg_ hnew_; (rw [← Ny123.out] at ho16); have HO125 := Aside0.mk (Kd.R_lower ho16 (keep_size (w := w) (g := g) (row := none) HK.out)); replace HI0 := Aside0.mk (IsS74.below HI0.out hb); replace HK := Aside0.mk (KeepBut.trans HK.out (KeepBut.of_below hb g none) (.inl rfl)); replace HB := Aside0.mk (below_step HB.out hb); clear hb ho16) | ((with_reducible refine gate_callee (f := 39) rfl ?_); refine goesL_ (some 17) rfl rfl Tryd.func39 (by kernel_rfl) rfl #[.pointer (some ⟨g, 0, none⟩), .int .i64 9] rfl (by (try simp only [List.map_toArray, List.map_cons, List.map_nil]); rfl) ?_; (with_reducible refine (spec_l6Rd_pick.calls k g s0_0 t122 9 t126 t127 w0 _ ?side1 ?side2 A9.out).mono ?_); (case side1 => repeat ((with_reducible exact HI0.out))); (case side2 => repeat ((with_reducible exact HB.out))); rintro e w17 ⟨rfl, hi, hb, hk⟩; refine ⟨_, rfl, ?_⟩; replace HO125 := Aside0.mk (Kd.R_mono (Kd.R_keep (IsS74.apart (show IsS74 w0 _ g s0_0 t122 from by repeat ((with_reducible exact HI0.out))) HO125.out (by decide)) hk (fun _ h => h.2)) (fun _ h => h.1)); replace HK := Aside0.mk (KeepBut.trans HK.out hk (.inl rfl)); replace HB := Aside0.mk hb; replace HI0 := Aside0.mk hi; (try clear hb); (try clear hk); (try clear hi); obtain ⟨Ao18, co18, eo18⟩ := Kd.R_slice HO125.out; subst eo18; have p128 : 0 ≤ (t126 : Int) := of_decide_eq_true (by (with_reducible assumption)); have q128 : t126 < (y123.length : Int) := of_decide_eq_true (by (with_reducible assumption)); obtain ⟨ad128, e128, hx128_0⟩ := Kd.at_string (Kd.R_reads' HO125.out).2.2 t126 p128 q128; cases e128; replace p128 := eq_true p128; replace q128 := eq_true q128))
       go_ret
       exact ⟨by first | rfl | (simp [*, errW_none, errW_some] <;> rfl), HI0.out, HB.out, HK.out⟩
      ·rw [if_neg c11] at H
       exact absurd H (by simp)
     ·rw [if_neg c10] at H
      exact absurd H (by simp)
    ·rw [if_neg c8] at H
     have c8b0 : (t121 == 0) = false := beq_eq_false_iff_ne.mpr c8
     have c8b1 : (t121 != 0) = true := bne_iff_ne.mpr c8
     by_cases c19 : t121 = 1
     ·rw [if_pos c19] at H
      have c19b0 : (t121 == 1) = true := beq_iff_eq.mpr c19
      have c19b1 : (t121 != 1) = false := bne_eq_false_iff_eq.mpr c19
      clear c19
      replace H := Option.bind_eq_some_iff.mp H
      obtain ⟨⟨t129, t130⟩, A200, H⟩ := H
      replace H : (if t129.size + 3 ≤ 9223372036854775807 then (some (t129 ++ (⟨#[40, 48, 41]⟩ : ByteArray), t130)) else (none)) = some (r1, r2) := H
      have A20 := Aside0.mk A200
      clear A200
      by_cases c21 : t129.size + 3 ≤ 9223372036854775807
      ·rw [if_pos c21] at H
       have c21b0 := eq_true c21
       have c21b1 : decide (t129.size + 3 ≤ 9223372036854775807) = true := decide_eq_true c21
       try have c21b2 : (9223372036854775807 < t129.size + 3) = False := eq_false (Nat.not_lt.2 c21)
       simp only [Option.some.injEq, Prod.mk.injEq] at H
       obtain ⟨rfl, rfl⟩ := H
       go_enter Tryd.func38, Tryd.ntmps38
       go_wp2_with (first | ((with_reducible refine gate_callee (f := 65) rfl ?_); refine goesL_ (some 5) rfl rfl Tryd.func65 (by kernel_rfl) rfl #[.pointer (some ⟨g, 0, none⟩), .int .i64 0, .int .i64 6] rfl (by (try simp only [List.map_toArray, List.map_cons, List.map_nil]); rfl) ?_; (with_reducible refine (spec_l91Signs.calls k g s0_0 s0_1 0 6 t117 t118 w0 _ ?side1 ?side2 A2.out).mono ?_); (case side1 => repeat ((with_reducible exact HI0.out))); (case side2 => repeat ((with_reducible exact HB.out))); rintro e w22 ⟨rfl, hi, hb, hk⟩; refine ⟨_, rfl, ?_⟩; replace HK := Aside0.mk (KeepBut.trans HK.out hk (.inl rfl)); replace HB := Aside0.mk hb; replace HI0 := Aside0.mk hi; (try clear hb); (try clear hk); (try clear hi)) | ((with_reducible refine gate_callee (f := 65) rfl ?_); refine goesL_ (some 8) rfl rfl Tryd.func65 (by kernel_rfl) rfl #[.pointer (some ⟨g, 0, none⟩), .int .i64 1, .int .i64 5] rfl (by (try simp only [List.map_toArray, List.map_cons, List.map_nil]); rfl) ?_; (with_reducible refine (spec_l91Signs.calls k g s0_0 t118 1 5 t119 t120 w0 _ ?side1 ?side2 A4.out).mono ?_); (case side1 => repeat ((with_reducible exact HI0.out))); (case side2 => repeat ((with_reducible exact HB.out))); rintro e w23 ⟨rfl, hi, hb, hk⟩; refine ⟨_, rfl, ?_⟩; replace HK := Aside0.mk (KeepBut.trans HK.out hk (.inl rfl)); replace HB := Aside0.mk hb; replace HI0 := Aside0.mk hi; (try clear hb); (try clear hk); (try clear hi)) | ((with_reducible refine gate_callee (f := 39) rfl ?_); refine goesL_ (some 12) rfl rfl Tryd.func39 (by kernel_rfl) rfl #[.pointer (some ⟨g, 0, none⟩), .int .i64 24] rfl (by (try simp only [List.map_toArray, List.map_cons, List.map_nil]); rfl) ?_; (with_reducible refine (spec_l6Rd_pick.calls k g s0_0 t120 24 t121 t122 w0 _ ?side1 ?side2 A7.out).mono ?_); (case side1 => repeat ((with_reducible exact HI0.out))); (case side2 => repeat ((with_reducible exact HB.out))); rintro e w24 ⟨rfl, hi, hb, hk⟩; refine ⟨_, rfl, ?_⟩; replace HK := Aside0.mk (KeepBut.trans HK.out hk (.inl rfl)); replace HB := Aside0.mk hb; replace HI0 := Aside0.mk hi; (try clear hb); (try clear hk); (try clear hi)) | ((with_reducible refine gate_callee (f := 65) rfl ?_); refine goesL_ (some 23) rfl rfl Tryd.func65 (by kernel_rfl) rfl #[.pointer (some ⟨g, 0, none⟩), .int .i64 0, .int .i64 6] rfl (by (try simp only [List.map_toArray, List.map_cons, List.map_nil]); rfl) ?_; (with_reducible refine (spec_l91Signs.calls k g s0_0 t122 0 6 t129 t130 w0 _ ?side1 ?side2 A20.out).mono ?_); (case side1 => repeat ((with_reducible exact HI0.out))); (case side2 => repeat ((with_reducible exact HB.out))); rintro e w25 ⟨rfl, hi, hb, hk⟩; refine ⟨_, rfl, ?_⟩; replace HK := Aside0.mk (KeepBut.trans HK.out hk (.inl rfl)); replace HB := Aside0.mk hb; replace HI0 := Aside0.mk hi; (try clear hb); (try clear hk); (try clear hi)))
       go_ret
       exact ⟨by first | rfl | (simp [*, errW_none, errW_some] <;> rfl), HI0.out, HB.out, HK.out⟩
      ·rw [if_neg c21] at H
       exact absurd H (by simp)
     ·rw [if_neg c19] at H
      have c19b0 : (t121 == 1) = false := beq_eq_false_iff_ne.mpr c19
      have c19b1 : (t121 != 1) = true := bne_iff_ne.mpr c19
      by_cases c26 : t121 = 2
      ·rw [if_pos c26] at H
       have c26b0 : (t121 == 2) = true := beq_iff_eq.mpr c26
       have c26b1 : (t121 != 2) = false := bne_eq_false_iff_eq.mpr c26
       clear c26
       by_cases c27 : 1 ≤ ((((t117 ++ (⟨#[40]⟩ : ByteArray)) ++ t119) ++ (⟨#[41]⟩ : ByteArray)).size : Int)
       ·rw [if_pos c27] at H
        have c27b0 := eq_true c27
        have c27b1 : decide (1 ≤ ((((t117 ++ (⟨#[40]⟩ : ByteArray)) ++ t119) ++ (⟨#[41]⟩ : ByteArray)).size : Int)) = true := decide_eq_true c27
        by_cases c28 : 1 + ((((t117 ++ (⟨#[40]⟩ : ByteArray)) ++ t119) ++ (⟨#[41]⟩ : ByteArray)).extract 1 (((t117 ++ (⟨#[40]⟩ : ByteArray)) ++ t119) ++ (⟨#[41]⟩ : ByteArray)).size).size ≤ 9223372036854775807
        ·rw [if_pos c28] at H
         have c28b0 := eq_true c28
         have c28b1 : decide (1 + ((((t117 ++ (⟨#[40]⟩ : ByteArray)) ++ t119) ++ (⟨#[41]⟩ : ByteArray)).extract 1 (((t117 ++ (⟨#[40]⟩ : ByteArray)) ++ t119) ++ (⟨#[41]⟩ : ByteArray)).size).size ≤ 9223372036854775807) = true := decide_eq_true c28
         try have c28b2 : (9223372036854775807 < 1 + ((((t117 ++ (⟨#[40]⟩ : ByteArray)) ++ t119) ++ (⟨#[41]⟩ : ByteArray)).extract 1 (((t117 ++ (⟨#[40]⟩ : ByteArray)) ++ t119) ++ (⟨#[41]⟩ : ByteArray)).size).size) = False := eq_false (Nat.not_lt.2 c28)
         simp only [Option.some.injEq, Prod.mk.injEq] at H
         obtain ⟨rfl, rfl⟩ := H
         go_enter Tryd.func38, Tryd.ntmps38
         go_wp2_with (first | ((with_reducible refine gate_callee (f := 65) rfl ?_); refine goesL_ (some 5) rfl rfl Tryd.func65 (by kernel_rfl) rfl #[.pointer (some ⟨g, 0, none⟩), .int .i64 0, .int .i64 6] rfl (by (try simp only [List.map_toArray, List.map_cons, List.map_nil]); rfl) ?_; (with_reducible refine (spec_l91Signs.calls k g s0_0 s0_1 0 6 t117 t118 w0 _ ?side1 ?side2 A2.out).mono ?_); (case side1 => repeat ((with_reducible exact HI0.out))); (case side2 => repeat ((with_reducible exact HB.out))); rintro e w29 ⟨rfl, hi, hb, hk⟩; refine ⟨_, rfl, ?_⟩; replace HK := Aside0.mk (KeepBut.trans HK.out hk (.inl rfl)); replace HB := Aside0.mk hb; replace HI0 := Aside0.mk hi; (try clear hb); (try clear hk); (try clear hi)) | ((with_reducible refine gate_callee (f := 65) rfl ?_); refine goesL_ (some 8) rfl rfl Tryd.func65 (by kernel_rfl) rfl #[.pointer (some ⟨g, 0, none⟩), .int .i64 1, .int .i64 5] rfl (by (try simp only [List.map_toArray, List.map_cons, List.map_nil]); rfl) ?_; (with_reducible refine (spec_l91Signs.calls k g s0_0 t118 1 5 t119 t120 w0 _ ?side1 ?side2 A4.out).mono ?_); (case side1 => repeat ((with_reducible exact HI0.out))); (case side2 => repeat ((with_reducible exact HB.out))); rintro e w30 ⟨rfl, hi, hb, hk⟩; refine ⟨_, rfl, ?_⟩; replace HK := Aside0.mk (KeepBut.trans HK.out hk (.inl rfl)); replace HB := Aside0.mk hb; replace HI0 := Aside0.mk hi; (try clear hb); (try clear hk); (try clear hi)) | ((with_reducible refine gate_callee (f := 39) rfl ?_); refine goesL_ (some 12) rfl rfl Tryd.func39 (by kernel_rfl) rfl #[.pointer (some ⟨g, 0, none⟩), .int .i64 24] rfl (by (try simp only [List.map_toArray, List.map_cons, List.map_nil]); rfl) ?_; (with_reducible refine (spec_l6Rd_pick.calls k g s0_0 t120 24 t121 t122 w0 _ ?side1 ?side2 A7.out).mono ?_); (case side1 => repeat ((with_reducible exact HI0.out))); (case side2 => repeat ((with_reducible exact HB.out))); rintro e w31 ⟨rfl, hi, hb, hk⟩; refine ⟨_, rfl, ?_⟩; replace HK := Aside0.mk (KeepBut.trans HK.out hk (.inl rfl)); replace HB := Aside0.mk hb; replace HI0 := Aside0.mk hi; (try clear hb); (try clear hk); (try clear hi)))
         go_ret
         exact ⟨by first | (simp [errW_none, errW_some] <;> rfl) | (simp [*, errW_none, errW_some] <;> rfl), HI0.out, HB.out, HK.out⟩
        ·rw [if_neg c28] at H
         exact absurd H (by simp)
       ·rw [if_neg c27] at H
        exact absurd H (by simp)
      ·rw [if_neg c26] at H
       have c26b0 : (t121 == 2) = false := beq_eq_false_iff_ne.mpr c26
       have c26b1 : (t121 != 2) = true := bne_iff_ne.mpr c26
       simp only [Option.some.injEq, Prod.mk.injEq] at H
       obtain ⟨rfl, rfl⟩ := H
       go_enter Tryd.func38, Tryd.ntmps38
       go_wp2_with (first | ((with_reducible refine gate_callee (f := 65) rfl ?_); refine goesL_ (some 5) rfl rfl Tryd.func65 (by kernel_rfl) rfl #[.pointer (some ⟨g, 0, none⟩), .int .i64 0, .int .i64 6] rfl (by (try simp only [List.map_toArray, List.map_cons, List.map_nil]); rfl) ?_; (with_reducible refine (spec_l91Signs.calls k g s0_0 s0_1 0 6 t117 t118 w0 _ ?side1 ?side2 A2.out).mono ?_); (case side1 => repeat ((with_reducible exact HI0.out))); (case side2 => repeat ((with_reducible exact HB.out))); rintro e w32 ⟨rfl, hi, hb, hk⟩; refine ⟨_, rfl, ?_⟩; replace HK := Aside0.mk (KeepBut.trans HK.out hk (.inl rfl)); replace HB := Aside0.mk hb; replace HI0 := Aside0.mk hi; (try clear hb); (try clear hk); (try clear hi)) | ((with_reducible refine gate_callee (f := 65) rfl ?_); refine goesL_ (some 8) rfl rfl Tryd.func65 (by kernel_rfl) rfl #[.pointer (some ⟨g, 0, none⟩), .int .i64 1, .int .i64 5] rfl (by (try simp only [List.map_toArray, List.map_cons, List.map_nil]); rfl) ?_; (with_reducible refine (spec_l91Signs.calls k g s0_0 t118 1 5 t119 t120 w0 _ ?side1 ?side2 A4.out).mono ?_); (case side1 => repeat ((with_reducible exact HI0.out))); (case side2 => repeat ((with_reducible exact HB.out))); rintro e w33 ⟨rfl, hi, hb, hk⟩; refine ⟨_, rfl, ?_⟩; replace HK := Aside0.mk (KeepBut.trans HK.out hk (.inl rfl)); replace HB := Aside0.mk hb; replace HI0 := Aside0.mk hi; (try clear hb); (try clear hk); (try clear hi)) | ((with_reducible refine gate_callee (f := 39) rfl ?_); refine goesL_ (some 12) rfl rfl Tryd.func39 (by kernel_rfl) rfl #[.pointer (some ⟨g, 0, none⟩), .int .i64 24] rfl (by (try simp only [List.map_toArray, List.map_cons, List.map_nil]); rfl) ?_; (with_reducible refine (spec_l6Rd_pick.calls k g s0_0 t120 24 t121 t122 w0 _ ?side1 ?side2 A7.out).mono ?_); (case side1 => repeat ((with_reducible exact HI0.out))); (case side2 => repeat ((with_reducible exact HB.out))); rintro e w34 ⟨rfl, hi, hb, hk⟩; refine ⟨_, rfl, ?_⟩; replace HK := Aside0.mk (KeepBut.trans HK.out hk (.inl rfl)); replace HB := Aside0.mk hb; replace HI0 := Aside0.mk hi; (try clear hb); (try clear hk); (try clear hi)))
       go_ret
       exact ⟨by first | rfl | (simp [*, errW_none, errW_some] <;> rfl), HI0.out, HB.out, HK.out⟩
   ·rw [if_neg c6] at H
    exact absurd H (by simp)
  ·rw [if_neg c5] at H
   exact absurd H (by simp)
 ·rw [if_neg c3] at H
  exact absurd H (by simp)


def spec_DrawProofRest.f (k : Nat) (l0 : List Int) : Option (ByteArray × Int) := (spec_l6Open.f l0).bind fun bt131 => ((spec_l91Set.f k bt131.1 bt131.2).bind fun bt134 => ((spec_l6Rd_pick.f k bt131.1 bt134.2 40).bind fun bt136 => ((spec_l6Rd_pick.f k bt131.1 bt136.2 200).bind fun bt138 => ((some (([wrap64 (1 + bt136.1), wrap64 (1 + bt138.1), 1000, 1001, 0] : List Int) : List Int)).bind fun y140 => ((spec_l6Rd_pick.f k bt131.1 bt138.2 5).bind fun bt143 => (if 0 ≤ bt143.1 then (if bt143.1 < (y140.length : Int) then (some (bt134.1, rd y140 bt143.1)) else (none)) else (none)))))))
theorem spec_DrawProofRest.mono : ∀ a0 k, LeO (spec_DrawProofRest.f k a0) (spec_DrawProofRest.f (k + 1) a0) := by
 intro a0 k
 unfold spec_DrawProofRest.f
 repeat' first | (with_reducible exact spec_l6Rd_pick.mono _ _ _ _) | (with_reducible exact spec_l91Set.mono _ _ _) | (with_reducible exact LeO.refl _) | (with_reducible refine LeO.bind ?_ (fun _ => ?_))
def spec_DrawProofRest.T2 : Bool × List (List Nat × List Nat) := (true, [([], []), ([0], [0]), ([], []), ([2, 1], [2]), ([3], [3]), ([], []), ([5, 3], [5]), ([6], [6]), ([4, 7], [4, 7]), ([], []), ([9, 6], [9]), ([8, 10], [8, 10]), ([11], [11]), ([1, 10, 0, 1], [1]), ([12, 13, 0, 1, 2, 3, 4, 5, 6, 7, 8, 9, 10, 11, 12, 13], [12])])
def spec_DrawProofRest.B2 : List Nat := [0, 1, 0, 7, 15, 0, 47, 111, 255, 0, 623, 2047, 4095, 1647, 16383]
theorem spec_DrawProofRest.tab2 : rtab .any (opsOf Tryd.f15 2) = spec_DrawProofRest.T2 := by kernel_rfl
theorem spec_DrawProofRest.bits2 : waitsOk spec_DrawProofRest.T2.2 spec_DrawProofRest.B2 = true := by kernel_rfl
set_option maxHeartbeats 8000000 in
set_option maxRecDepth 100000 in
theorem spec_DrawProofRest.calls (k : Nat) (A0 : Option Addr) (c0 : Nat) (l0 : List Int) (r1 : ByteArray) (r2 : Int) (w : World) (hr0 : Kd.C (Kd.int .u8) w A0 l0.length l0) (hc0 : l0.length ≤ c0) (h : spec_DrawProofRest.f k l0 = some (r1, r2)) :
  Calls Tryd.prog 15 #[.slice A0 l0.length c0] w fun e w' => e = .returned (.tuple #[.string r1, .int .i64 r2]) ∧ Below w.heap.size w w' := by
 have HR0 := Aside0.mk hr0
 have HC0 := Aside0.mk hc0
 clear hr0 hc0
 have HB := Aside0.mk (Below.refl w.heap.size w)
 have H : ((spec_l6Open.f l0).bind fun bt131 => ((spec_l91Set.f k bt131.1 bt131.2).bind fun bt134 => ((spec_l6Rd_pick.f k bt131.1 bt134.2 40).bind fun bt136 => ((spec_l6Rd_pick.f k bt131.1 bt136.2 200).bind fun bt138 => ((some (([wrap64 (1 + bt136.1), wrap64 (1 + bt138.1), 1000, 1001, 0] : List Int) : List Int)).bind fun y140 => ((spec_l6Rd_pick.f k bt131.1 bt138.2 5).bind fun bt143 => (if 0 ≤ bt143.1 then (if bt143.1 < (y140.length : Int) then (some (bt134.1, rd y140 bt143.1)) else (none)) else (none)))))))) = some (r1, r2) := h
 clear h
 replace H := Option.bind_eq_some_iff.mp H
 obtain ⟨⟨t131, t132⟩, A20, H⟩ := H
 replace H : ((spec_l91Set.f k t131 t132).bind fun bt134 => ((spec_l6Rd_pick.f k t131 bt134.2 40).bind fun bt136 => ((spec_l6Rd_pick.f k t131 bt136.2 200).bind fun bt138 => ((some (([wrap64 (1 + bt136.1), wrap64 (1 + bt138.1), 1000, 1001, 0] : List Int) : List Int)).bind fun y140 => ((spec_l6Rd_pick.f k t131 bt138.2 5).bind fun bt143 => (if 0 ≤ bt143.1 then (if bt143.1 < (y140.length : Int) then (some (bt134.1, rd y140 bt143.1)) else (none)) else (none))))))) = some (r1, r2) := H
 have A2 := Aside0.mk A20
 clear A20
 replace H := Option.bind_eq_some_iff.mp H
 obtain ⟨⟨t134, t135⟩, A30, H⟩ := H
 replace H : ((spec_l6Rd_pick.f k t131 t135 40).bind fun bt136 => ((spec_l6Rd_pick.f k t131 bt136.2 200).bind fun bt138 => ((some (([wrap64 (1 + bt136.1), wrap64 (1 + bt138.1), 1000, 1001, 0] : List Int) : List Int)).bind fun y140 => ((spec_l6Rd_pick.f k t131 bt138.2 5).bind fun bt143 => (if 0 ≤ bt143.1 then (if bt143.1 < (y140.length : Int) then (some (t134, rd y140 bt143.1)) else (none)) else (none)))))) = some (r1, r2) := H
 have A3 := Aside0.mk A30
 clear A30
 replace H := Option.bind_eq_some_iff.mp H
 obtain ⟨⟨t136, t137⟩, A40, H⟩ := H
 replace H : ((spec_l6Rd_pick.f k t131 t137 200).bind fun bt138 => ((some (([wrap64 (1 + t136), wrap64 (1 + bt138.1), 1000, 1001, 0] : List Int) : List Int)).bind fun y140 => ((spec_l6Rd_pick.f k t131 bt138.2 5).bind fun bt143 => (if 0 ≤ bt143.1 then (if bt143.1 < (y140.length : Int) then (some (t134, rd y140 bt143.1)) else (none)) else (none))))) = some (r1, r2) := H
 have A4 := Aside0.mk A40
 clear A40
 replace H := Option.bind_eq_some_iff.mp H
 obtain ⟨⟨t138, t139⟩, A50, H⟩ := H
 replace H : ((some (([wrap64 (1 + t136), wrap64 (1 + t138), 1000, 1001, 0] : List Int) : List Int)).bind fun y140 => ((spec_l6Rd_pick.f k t131 t139 5).bind fun bt143 => (if 0 ≤ bt143.1 then (if bt143.1 < (y140.length : Int) then (some (t134, rd y140 bt143.1)) else (none)) else (none)))) = some (r1, r2) := H
 have A5 := Aside0.mk A50
 clear A50
 obtain ⟨y140, hy140⟩ : ∃ y_ : List Int, y_ = (([wrap64 (1 + t136), wrap64 (1 + t138), 1000, 1001, 0] : List Int)) := ⟨_, rfl⟩
 replace H : ((spec_l6Rd_pick.f k t131 t139 5).bind fun bt143 => (if 0 ≤ bt143.1 then (if bt143.1 < (y140.length : Int) then (some (t134, rd y140 bt143.1)) else (none)) else (none))) = some (r1, r2) := by first | (have H2_ := (Option.bind_some _ _).symm.trans H; rw [hy140]; with_reducible exact H2_)
 have Ny140 := Aside0.mk hy140
 clear hy140
 replace H := Option.bind_eq_some_iff.mp H
 obtain ⟨⟨t143, t144⟩, A60, H⟩ := H
 replace H : (if 0 ≤ t143 then (if t143 < (y140.length : Int) then (some (t134, rd y140 t143)) else (none)) else (none)) = some (r1, r2) := H
 have A6 := Aside0.mk A60
 clear A60
 by_cases c7 : 0 ≤ t143
 ·rw [if_pos c7] at H
  have c7b0 : decide (0 ≤ t143) = true := decide_eq_true c7
  clear c7
  by_cases c8 : t143 < (y140.length : Int)
  ·rw [if_pos c8] at H
   have c8b0 : decide (t143 < (y140.length : Int)) = true := decide_eq_true c8
   clear c8
   simp only [Option.some.injEq, Prod.mk.injEq] at H
   obtain ⟨rfl, rfl⟩ := H
   go_enter Tryd.func15, Tryd.ntmps15
   try go_wp2_with (first | ((with_reducible refine gate_callee (f := 37) rfl ?_); refine goesL_ (some 6) rfl rfl Tryd.func37 (by kernel_rfl) rfl #[.slice A0 l0.length c0] rfl (by (try simp only [List.map_toArray, List.map_cons, List.map_nil]); rfl) ?_; (with_reducible refine (spec_l6Open.calls _ _ l0 t131 t132 w _ ?side1 ?side2 ?side3 A2.out).mono ?_); (case side1 => repeat ((with_reducible exact HB.out))); (case side2 => exact HR0.out); (case side3 => exact HC0.out); rintro e w9 ⟨g133, rfl, hi, hb, hb2⟩; refine ⟨_, rfl, ?_⟩; replace HB := Aside0.mk hb; have HI133 := Aside0.mk hi; (try clear hb); (try clear hb2); (try clear hi)))
   have pi145 : (0 ≤ (t143 : Int)) = True := eq_true (of_decide_eq_true (by (with_reducible assumption)))
   have qi145 : (t143 < (y140.length : Int)) = True := eq_true (of_decide_eq_true (by (with_reducible assumption)))
   replace HI133 := Aside0.mk (IsS74.drew HI133.out)
   replace HB := Aside0.mk (below_drew1 HB.out)
   refine start_ (n := 15) (S := fun w' => True) (ds := []) #[false, false, false, false, false, false, false, false, false, false, false, false, false, false, false] (by kernel_rfl) rfl rfl trivial (fun hHeld => ?_); refine with_tabW spec_DrawProofRest.tab2 spec_DrawProofRest.bits2 (fun HT_ HW_ => ?_)
   generalize w9.drew = w10 at HI133 HB hHeld ⊢
   refine pure_ (i := 0) (N := some 7) (v := ?_) (a' := ?_) #[true, false, false, false, false, false, false, false, false, false, false, false, false, false, false] rfl rfl (any_of HT_.out (by kernel_rfl)) (fun _ _ _ h => h) (Or.inl ⟨by rfl, ?_⟩) ?_ ?_
   rotate_left
   ·intro w'
    go_simp
    with_reducible rfl
   rotate_left
   ·simp only [Act.put, List.setIfInBounds_toArray, List.set_cons_zero, List.set_cons_succ, i64_w, i32_w]
    rfl
   refine pure_ (i := 2) (N := some 9) (v := ?_) (a' := ?_) #[true, false, true, false, false, false, false, false, false, false, false, false, false, false, false] rfl rfl (any_of HT_.out (by kernel_rfl)) (fun _ _ _ h => h) (Or.inl ⟨by rfl, ?_⟩) ?_ ?_
   rotate_left
   ·intro w'
    go_simp
    with_reducible rfl
   rotate_left
   ·simp only [Act.put, List.setIfInBounds_toArray, List.set_cons_zero, List.set_cons_succ, i64_w, i32_w]
    rfl
   refine pure_ (i := 5) (N := some 12) (v := ?_) (a' := ?_) #[true, false, true, false, false, true, false, false, false, false, false, false, false, false, false] rfl rfl (any_of HT_.out (by kernel_rfl)) (fun _ _ _ h => h) (Or.inl ⟨by rfl, ?_⟩) ?_ ?_
   rotate_left
   ·intro w'
    go_simp
    with_reducible rfl
   rotate_left
   ·simp only [Act.put, List.setIfInBounds_toArray, List.set_cons_zero, List.set_cons_succ, i64_w, i32_w]
    rfl
   refine pure_ (i := 9) (N := some 16) (v := ?_) (a' := ?_) #[true, false, true, false, false, true, false, false, false, true, false, false, false, false, false] rfl rfl (any_of HT_.out (by kernel_rfl)) (fun _ _ _ h => h) (Or.inl ⟨by rfl, ?_⟩) ?_ ?_
   rotate_left
   ·intro w'
    go_simp
    with_reducible rfl
   rotate_left
   ·simp only [Act.put, List.setIfInBounds_toArray, List.set_cons_zero, List.set_cons_succ, i64_w, i32_w]
    rfl
   refine inv_at [1, 3, 4, 6, 7, 8, 10, 11, 12, 13, 14] (fun a0_ b a w' => ∃ (v141 : Value) (adz_v141 : Addr) (m11_ : Value), a = putSel a0_ b [(1, 8, .string t134), (3, 10, .int .i64 t136), (4, 11, .int .i64 (wrap64 (1 + t136))), (6, 13, .int .i64 t138), (7, 14, .int .i64 (wrap64 (1 + t138))), (8, 15, v141), (10, 17, .int .i64 t143), (11, 18, m11_), (12, 19, .int .i64 (rd y140 t143)), (13, 2, .string t134), (14, 3, .int .i64 (rd y140 t143))] ∧ (b 1 = false → IsS74 w w' g133 t131 t132) ∧ (Below w.heap.size w w') ∧ (b 1 = true → b 3 = false → IsS74 w w' g133 t131 t135) ∧ (b 3 = true → b 6 = false → IsS74 w w' g133 t131 t137) ∧ (b 6 = true → b 10 = false → IsS74 w w' g133 t131 t139) ∧ (b 8 = true → Kd.R (Kd.int .i64) 3 w' w.heap.size (fun _ => True) v141 y140) ∧ (b 8 = true → ∃ c_, (v141 : Value) = .slice (some adz_v141) y140.length c_) ∧ (b 10 = true → IsS74 w w' g133 t131 t144) ∧ (b 11 = true → (m11_ : Value) = .pointer (some (adz_v141.add (t143).toNat)))) HT_.out HW_.out (by kernel_rfl) (by kernel_rfl) ?_ ?_ ?_
   ·exact ⟨.bool false, ⟨0, 0, none⟩, .bool false, by simp only [putSel, Bool.false_eq_true, if_false], fun _ => HI133.out, HB.out, fun h_ => absurd h_ (by decide), fun h_ => absurd h_ (by decide), fun h_ => absurd h_ (by decide), fun h_ => absurd h_ (by decide), fun h_ => absurd h_ (by decide), fun h_ => absurd h_ (by decide), fun h_ => absurd h_ (by decide)⟩
   ·skip
    clear HB HI133
    refine steps_cons ?_ ?_
    ·rintro b a w' ⟨v141, adz_v141, m11_, ha, Q_HI133, Q_HB, Q_HI133_e1, Q_HI133_e3, Q_HI133_e6, Q_HO142, Q_HA_HO142, Q_HI133_e10, Q_X11_⟩ hb_ hon hoff
     refine ⟨_, rfl, fun K hK => ?_⟩
     have e7 : a.tmps[7]? = some (.pointer (some ⟨g133, 0, none⟩)) := by rw [ha]; exact (putSel_off rfl).trans rfl
     replace ha := Aside0.mk ha
     have HI133 := Aside0.mk (Q_HI133 hb_)
     have HB := Aside0.mk Q_HB
     refine goes_ Tryd.func38 (by kernel_rfl) rfl #[.pointer (some ⟨g133, 0, none⟩)] (by rfl) rfl rfl (by first | (simp only [List.map_toArray, List.map_cons, List.map_nil, Act.eval, Array.getD_eq_getD_getElem?, Option.getD_some, e7]; done)) ?_
     with_reducible refine (spec_l91Set.calls k g133 t131 t132 t134 t135 w _ ?side1 ?side2 A3.out).mono ?_
     (case side1 => repeat ((with_reducible exact HI133.out)))
     (case side2 => repeat ((with_reducible exact HB.out)))
     rintro e w11 ⟨rfl, hi, hb, hk⟩
     refine ⟨_, rfl, ?_⟩
     replace HB := Aside0.mk hb
     replace HI133 := Aside0.mk hi
     (try clear hb)
     (try clear hk)
     (try clear hi)
     refine hK.out _ _ ⟨v141, adz_v141, m11_, (by rw [ha.out]; exact putSel_upk 0 hb_ rfl rfl rfl), fun h0_ => absurd ((up_self b 1).symm.trans h0_) (by decide), HB.out, fun _ _ => HI133.out, fun h0_ _ => absurd ((hoff 3 (by kernel_rfl)).symm.trans h0_) (by decide), fun h0_ _ => absurd ((hoff 6 (by kernel_rfl)).symm.trans h0_) (by decide), fun h0_ => absurd ((hoff 8 (by kernel_rfl)).symm.trans h0_) (by decide), fun h0_ => absurd ((hoff 8 (by kernel_rfl)).symm.trans h0_) (by decide), fun h0_ => absurd ((hoff 10 (by kernel_rfl)).symm.trans h0_) (by decide), fun h0_ => absurd ((hoff 11 (by kernel_rfl)).symm.trans h0_) (by decide)⟩
    refine steps_cons ?_ ?_
    ·rintro b a w' ⟨v141, adz_v141, m11_, ha, Q_HI133, Q_HB, Q_HI133_e1, Q_HI133_e3, Q_HI133_e6, Q_HO142, Q_HA_HO142, Q_HI133_e10, Q_X11_⟩ hb_ hon hoff
     refine ⟨_, rfl, fun K hK => ?_⟩
     have e9 : a.tmps[9]? = some (.pointer (some ⟨g133, 0, none⟩)) := by rw [ha]; exact (putSel_off rfl).trans rfl
     replace ha := Aside0.mk ha
     have HB := Aside0.mk Q_HB
     have HI133 := Aside0.mk (Q_HI133_e1 (hon 1 (by kernel_rfl)) hb_)
     refine goes_ Tryd.func39 (by kernel_rfl) rfl #[.pointer (some ⟨g133, 0, none⟩), .int .i64 40] (by rfl) rfl rfl (by first | (simp only [List.map_toArray, List.map_cons, List.map_nil, Act.eval, Array.getD_eq_getD_getElem?, Option.getD_some, e9]; done)) ?_
     with_reducible refine (spec_l6Rd_pick.calls k g133 t131 t135 40 t136 t137 w _ ?side1 ?side2 A4.out).mono ?_
     (case side1 => repeat ((with_reducible exact HI133.out)))
     (case side2 => repeat ((with_reducible exact HB.out)))
     rintro e w13 ⟨rfl, hi, hb, hk⟩
     refine ⟨_, rfl, ?_⟩
     replace HB := Aside0.mk hb
     replace HI133 := Aside0.mk hi
     (try clear hb)
     (try clear hk)
     (try clear hi)
     refine hK.out _ _ ⟨v141, adz_v141, m11_, (by rw [ha.out]; exact putSel_upk 1 hb_ rfl rfl rfl), fun h0_ => absurd ((hon 1 (by kernel_rfl)).symm.trans h0_) (by decide), HB.out, fun _ h1_ => absurd ((up_self b 3).symm.trans h1_) (by decide), fun _ _ => HI133.out, fun h0_ _ => absurd ((hoff 6 (by kernel_rfl)).symm.trans h0_) (by decide), fun h0_ => absurd ((hoff 8 (by kernel_rfl)).symm.trans h0_) (by decide), fun h0_ => absurd ((hoff 8 (by kernel_rfl)).symm.trans h0_) (by decide), fun h0_ => absurd ((hoff 10 (by kernel_rfl)).symm.trans h0_) (by decide), fun h0_ => absurd ((hoff 11 (by kernel_rfl)).symm.trans h0_) (by decide)⟩
    refine steps_cons ?_ ?_
    ·rintro b a w' ⟨v141, adz_v141, m11_, ha, Q_HI133, Q_HB, Q_HI133_e1, Q_HI133_e3, Q_HI133_e6, Q_HO142, Q_HA_HO142, Q_HI133_e10, Q_X11_⟩ hb_ hon hoff
     refine ⟨_, rfl, fun K hK => ?_⟩
     have e10 : a.tmps[10]? = some (.int .i64 t136) := by rw [ha]; exact putSel_on (e := (3, 10, .int .i64 t136)) 1 rfl rfl (hon 3 (by kernel_rfl)) rfl
     replace ha := Aside0.mk ha
     have HB := Aside0.mk Q_HB
     refine value_ (w1 := w') (v := .int .i64 (wrap64 (1 + t136))) (by rfl) rfl ?_ ?_
     ·go_simp
      (try simp only [i64_w])
     refine hK.out _ _ ⟨v141, adz_v141, m11_, (by rw [ha.out]; exact putSel_upk 2 hb_ rfl rfl rfl), fun h0_ => absurd ((hon 1 (by kernel_rfl)).symm.trans h0_) (by decide), Q_HB, fun _ h1_ => absurd ((hon 3 (by kernel_rfl)).symm.trans h1_) (by decide), Q_HI133_e3, Q_HI133_e6, fun h0_ => absurd ((hoff 8 (by kernel_rfl)).symm.trans h0_) (by decide), fun h0_ => absurd ((hoff 8 (by kernel_rfl)).symm.trans h0_) (by decide), Q_HI133_e10, fun h0_ => absurd ((hoff 11 (by kernel_rfl)).symm.trans h0_) (by decide)⟩
    refine steps_cons ?_ ?_
    ·rintro b a w' ⟨v141, adz_v141, m11_, ha, Q_HI133, Q_HB, Q_HI133_e1, Q_HI133_e3, Q_HI133_e6, Q_HO142, Q_HA_HO142, Q_HI133_e10, Q_X11_⟩ hb_ hon hoff
     refine ⟨_, rfl, fun K hK => ?_⟩
     have e12 : a.tmps[12]? = some (.pointer (some ⟨g133, 0, none⟩)) := by rw [ha]; exact (putSel_off rfl).trans rfl
     replace ha := Aside0.mk ha
     have HB := Aside0.mk Q_HB
     have HI133 := Aside0.mk (Q_HI133_e3 (hon 3 (by kernel_rfl)) hb_)
     refine goes_ Tryd.func39 (by kernel_rfl) rfl #[.pointer (some ⟨g133, 0, none⟩), .int .i64 200] (by rfl) rfl rfl (by first | (simp only [List.map_toArray, List.map_cons, List.map_nil, Act.eval, Array.getD_eq_getD_getElem?, Option.getD_some, e12]; done)) ?_
     with_reducible refine (spec_l6Rd_pick.calls k g133 t131 t137 200 t138 t139 w _ ?side1 ?side2 A5.out).mono ?_
     (case side1 => repeat ((with_reducible exact HI133.out)))
     (case side2 => repeat ((with_reducible exact HB.out)))
     rintro e w14 ⟨rfl, hi, hb, hk⟩
     refine ⟨_, rfl, ?_⟩
     replace HB := Aside0.mk hb
     replace HI133 := Aside0.mk hi
     (try clear hb)
     (try clear hk)
     (try clear hi)
     refine hK.out _ _ ⟨v141, adz_v141, m11_, (by rw [ha.out]; exact putSel_upk 3 hb_ rfl rfl rfl), fun h0_ => absurd ((hon 1 (by kernel_rfl)).symm.trans h0_) (by decide), HB.out, fun _ h1_ => absurd ((hon 3 (by kernel_rfl)).symm.trans h1_) (by decide), fun _ h1_ => absurd ((up_self b 6).symm.trans h1_) (by decide), fun _ _ => HI133.out, fun h0_ => absurd ((hoff 8 (by kernel_rfl)).symm.trans h0_) (by decide), fun h0_ => absurd ((hoff 8 (by kernel_rfl)).symm.trans h0_) (by decide), fun h0_ => absurd ((hoff 10 (by kernel_rfl)).symm.trans h0_) (by decide), fun h0_ => absurd ((hoff 11 (by kernel_rfl)).symm.trans h0_) (by decide)⟩
    refine steps_cons ?_ ?_
    ·rintro b a w' ⟨v141, adz_v141, m11_, ha, Q_HI133, Q_HB, Q_HI133_e1, Q_HI133_e3, Q_HI133_e6, Q_HO142, Q_HA_HO142, Q_HI133_e10, Q_X11_⟩ hb_ hon hoff
     refine ⟨_, rfl, fun K hK => ?_⟩
     have e13 : a.tmps[13]? = some (.int .i64 t138) := by rw [ha]; exact putSel_on (e := (6, 13, .int .i64 t138)) 3 rfl rfl (hon 6 (by kernel_rfl)) rfl
     replace ha := Aside0.mk ha
     have HB := Aside0.mk Q_HB
     refine value_ (w1 := w') (v := .int .i64 (wrap64 (1 + t138))) (by rfl) rfl ?_ ?_
     ·go_simp
      (try simp only [i64_w])
     refine hK.out _ _ ⟨v141, adz_v141, m11_, (by rw [ha.out]; exact putSel_upk 4 hb_ rfl rfl rfl), fun h0_ => absurd ((hon 1 (by kernel_rfl)).symm.trans h0_) (by decide), Q_HB, fun _ h1_ => absurd ((hon 3 (by kernel_rfl)).symm.trans h1_) (by decide), fun _ h1_ => absurd ((hon 6 (by kernel_rfl)).symm.trans h1_) (by decide), Q_HI133_e6, fun h0_ => absurd ((hoff 8 (by kernel_rfl)).symm.trans h0_) (by decide), fun h0_ => absurd ((hoff 8 (by kernel_rfl)).symm.trans h0_) (by decide), Q_HI133_e10, fun h0_ => absurd ((hoff 11 (by kernel_rfl)).symm.trans h0_) (by decide)⟩
    refine steps_cons ?_ ?_
    ·rintro b a w' ⟨v141, adz_v141, m11_, ha, Q_HI133, Q_HB, Q_HI133_e1, Q_HI133_e3, Q_HI133_e6, Q_HO142, Q_HA_HO142, Q_HI133_e10, Q_X11_⟩ hb_ hon hoff
     refine ⟨_, rfl, fun K hK => ?_⟩
     have e11 : a.tmps[11]? = some (.int .i64 (wrap64 (1 + t136))) := by rw [ha]; exact putSel_on (e := (4, 11, .int .i64 (wrap64 (1 + t136)))) 2 rfl rfl (hon 4 (by kernel_rfl)) rfl
     have e14 : a.tmps[14]? = some (.int .i64 (wrap64 (1 + t138))) := by rw [ha]; exact putSel_on (e := (7, 14, .int .i64 (wrap64 (1 + t138)))) 4 rfl rfl (hon 7 (by kernel_rfl)) rfl
     replace ha := Aside0.mk ha
     have HB := Aside0.mk Q_HB
     refine Kd.R_lit_step (Kd.int .i64) _ 3 ?hg (N := 15) ?hd (xs := ([wrap64 (1 + t136), wrap64 (1 + t138), 1000, 1001, 0] : List Int)) (inner := [.int .i64 (wrap64 (1 + t136)), .int .i64 (wrap64 (1 + t138)), .int .i64 1000, .int .i64 1001, .int .i64 0]) (ok := fun _ => True) (okp := fun _ => True) ?hr ?hp (fun _ hk => hk) trivial (Below.refl _ _) (Nat.le_refl _) (by simp) ?_; (case hd => rfl); (case hg => rfl); (case hr => first | (go_simp; done)); (case hp => exact (Reps.one (show Kd.M (Kd.int .i64) _ _ _ (wrap64 (1 + t136)) [.int .i64 (wrap64 (1 + t136))] from rfl) (Reps.one (show Kd.M (Kd.int .i64) _ _ _ (wrap64 (1 + t138)) [.int .i64 (wrap64 (1 + t138))] from rfl) (Reps.one (show Kd.M (Kd.int .i64) _ _ _ 1000 [.int .i64 1000] from rfl) (Reps.one (show Kd.M (Kd.int .i64) _ _ _ 1001 [.int .i64 1001] from rfl) (Reps.one (show Kd.M (Kd.int .i64) _ _ _ 0 [.int .i64 0] from rfl) (Reps.none _ _)))))))
     intro v141 w15 ho16 hb hg_ hnew_
     clear hg_ hnew_
     (rw [← Ny140.out] at ho16)
     have n0_ := Aside0.mk (Kd.R_lower ho16 (below_size HB.out))
     have n2_ := Aside0.mk (below_step HB.out hb)
     have z_HI133_e6 := fun (h0_ : b 6 = true) (h1_ : b 10 = false) => (show IsS74 w w15 g133 t131 t139 from by exact (IsS74.below (by repeat ((with_reducible exact (Q_HI133_e6 h0_ h1_)))) hb))
     have z_HI133_e10 := fun (h0_ : b 10 = true) => (show IsS74 w w15 g133 t131 t144 from by exact (IsS74.below (by repeat ((with_reducible exact (Q_HI133_e10 h0_)))) hb))
     clear HB
     have HO142 := n0_
     have HB := n2_
     clear n0_ n2_
     clear hb ho16
     obtain ⟨Ao17, co17, eo17⟩ := Kd.R_slice HO142.out
     subst eo17
     obtain ⟨ado17, fo17, _⟩ := Kd.at_int (Kd.R_reads' HO142.out).2.2 0 (by decide) (by rw [Ny140.out]; simp)
     cases fo17
     refine hK.out _ _ ⟨.slice (some ado17) y140.length co17, ado17, m11_, (by rw [ha.out]; exact putSel_upk 5 hb_ rfl rfl rfl), fun h0_ => absurd ((hon 1 (by kernel_rfl)).symm.trans h0_) (by decide), HB.out, fun _ h1_ => absurd ((hon 3 (by kernel_rfl)).symm.trans h1_) (by decide), fun _ h1_ => absurd ((hon 6 (by kernel_rfl)).symm.trans h1_) (by decide), z_HI133_e6, fun _ => HO142.out, fun _ => ⟨_, rfl⟩, z_HI133_e10, fun h0_ => absurd ((hoff 11 (by kernel_rfl)).symm.trans h0_) (by decide)⟩
    refine steps_cons ?_ ?_
    ·rintro b a w' ⟨v141, adz_v141, m11_, ha, Q_HI133, Q_HB, Q_HI133_e1, Q_HI133_e3, Q_HI133_e6, Q_HO142, Q_HA_HO142, Q_HI133_e10, Q_X11_⟩ hb_ hon hoff
     refine ⟨_, rfl, fun K hK => ?_⟩
     have e16 : a.tmps[16]? = some (.pointer (some ⟨g133, 0, none⟩)) := by rw [ha]; exact (putSel_off rfl).trans rfl
     replace ha := Aside0.mk ha
     have HB := Aside0.mk Q_HB
     have HI133 := Aside0.mk (Q_HI133_e6 (hon 6 (by kernel_rfl)) hb_)
     refine goes_ Tryd.func39 (by kernel_rfl) rfl #[.pointer (some ⟨g133, 0, none⟩), .int .i64 5] (by rfl) rfl rfl (by first | (simp only [List.map_toArray, List.map_cons, List.map_nil, Act.eval, Array.getD_eq_getD_getElem?, Option.getD_some, e16]; done)) ?_
     with_reducible refine (spec_l6Rd_pick.calls k g133 t131 t139 5 t143 t144 w _ ?side1 ?side2 A6.out).mono ?_
     (case side1 => repeat ((with_reducible exact HI133.out)))
     (case side2 => repeat ((with_reducible exact HB.out)))
     rintro e w15 ⟨rfl, hi, hb, hk⟩
     refine ⟨_, rfl, ?_⟩
     have n0_ := Aside0.mk hb
     have n1_ := Aside0.mk hi
     have z_HO142 := fun (h0_ : b 8 = true) => (show Kd.R (Kd.int .i64) 3 w15 w.heap.size (fun _ => True) v141 y140 from by first | exact (Kd.R_mono (Kd.R_keep (IsS74.apart (show IsS74 w _ g133 t131 t139 from by repeat ((with_reducible exact HI133.out))) (by exact (Q_HO142 h0_)) (by decide)) hk (fun _ h => h.2)) (fun _ h => h.1)))
     clear HB
     clear HI133
     have HB := n0_
     have HI133 := n1_
     clear n0_ n1_
     (try clear hb)
     (try clear hk)
     (try clear hi)
     refine hK.out _ _ ⟨v141, adz_v141, m11_, (by rw [ha.out]; exact putSel_upk 6 hb_ rfl rfl rfl), fun h0_ => absurd ((hon 1 (by kernel_rfl)).symm.trans h0_) (by decide), HB.out, fun _ h1_ => absurd ((hon 3 (by kernel_rfl)).symm.trans h1_) (by decide), fun _ h1_ => absurd ((hon 6 (by kernel_rfl)).symm.trans h1_) (by decide), fun _ h1_ => absurd ((up_self b 10).symm.trans h1_) (by decide), z_HO142, Q_HA_HO142, fun _ => HI133.out, fun h0_ => absurd ((hoff 11 (by kernel_rfl)).symm.trans h0_) (by decide)⟩
    refine steps_cons ?_ ?_
    ·rintro b a w' ⟨v141, adz_v141, m11_, ha, Q_HI133, Q_HB, Q_HI133_e1, Q_HI133_e3, Q_HI133_e6, Q_HO142, Q_HA_HO142, Q_HI133_e10, Q_X11_⟩ hb_ hon hoff
     refine ⟨_, rfl, fun K hK => ?_⟩
     have e15 : a.tmps[15]? = some (v141) := by rw [ha]; exact putSel_on (e := (8, 15, v141)) 5 rfl rfl (hon 8 (by kernel_rfl)) rfl
     have e17 : a.tmps[17]? = some (.int .i64 t143) := by rw [ha]; exact putSel_on (e := (10, 17, .int .i64 t143)) 6 rfl rfl (hon 10 (by kernel_rfl)) rfl
     replace ha := Aside0.mk ha
     have HB := Aside0.mk Q_HB
     have HO142 := Aside0.mk (Q_HO142 (hon 8 (by kernel_rfl)))
     have HA_HO142 := Aside0.mk (Q_HA_HO142 (hon 8 (by kernel_rfl)))
     have HI133 := Aside0.mk (Q_HI133_e10 (hon 10 (by kernel_rfl)))
     obtain ⟨c_, hv_⟩ := HA_HO142.out
     rw [hv_] at e15
     refine value_ (w1 := w') (v := .pointer (some (adz_v141.add (t143).toNat))) (by rfl) rfl ?_ ?_
     ·go_simp
     refine hK.out _ _ ⟨v141, adz_v141, (.pointer (some (adz_v141.add (t143).toNat))), (by rw [ha.out]; exact putSel_upk 7 hb_ rfl rfl rfl), fun h0_ => absurd ((hon 1 (by kernel_rfl)).symm.trans h0_) (by decide), Q_HB, fun _ h1_ => absurd ((hon 3 (by kernel_rfl)).symm.trans h1_) (by decide), fun _ h1_ => absurd ((hon 6 (by kernel_rfl)).symm.trans h1_) (by decide), fun _ h1_ => absurd ((hon 10 (by kernel_rfl)).symm.trans h1_) (by decide), Q_HO142, Q_HA_HO142, Q_HI133_e10, fun _ => rfl⟩
    refine steps_cons ?_ ?_
    ·rintro b a w' ⟨v141, adz_v141, m11_, ha, Q_HI133, Q_HB, Q_HI133_e1, Q_HI133_e3, Q_HI133_e6, Q_HO142, Q_HA_HO142, Q_HI133_e10, Q_X11_⟩ hb_ hon hoff
     refine ⟨_, rfl, fun K hK => ?_⟩
     have e18 : a.tmps[18]? = some (m11_) := by rw [ha]; exact putSel_on (e := (11, 18, m11_)) 7 rfl rfl (hon 11 (by kernel_rfl)) rfl
     rw [Q_X11_ (hon 11 (by kernel_rfl))] at e18
     replace ha := Aside0.mk ha
     have HB := Aside0.mk Q_HB
     have HO142 := Aside0.mk (Q_HO142 (hon 8 (by kernel_rfl)))
     have HA_HO142 := Aside0.mk (Q_HA_HO142 (hon 8 (by kernel_rfl)))
     have HI133 := Aside0.mk (Q_HI133_e10 (hon 10 (by kernel_rfl)))
     obtain ⟨c_, hv_⟩ := HA_HO142.out
     have hF_ := HO142.out
     rw [hv_] at hF_
     obtain ⟨ad_, ea_, hx_⟩ := Kd.at_int (Kd.R_reads' hF_).2.2 t143 (of_eq_true pi145) (of_eq_true qi145)
     cases ea_
     refine value_ (w1 := w') (v := .int .i64 (rd y140 t143)) (by rfl) rfl ?_ ?_
     ·go_simp
     refine hK.out _ _ ⟨v141, adz_v141, m11_, (by rw [ha.out]; exact putSel_upk 8 hb_ rfl rfl rfl), fun h0_ => absurd ((hon 1 (by kernel_rfl)).symm.trans h0_) (by decide), Q_HB, fun _ h1_ => absurd ((hon 3 (by kernel_rfl)).symm.trans h1_) (by decide), fun _ h1_ => absurd ((hon 6 (by kernel_rfl)).symm.trans h1_) (by decide), fun _ h1_ => absurd ((hon 10 (by kernel_rfl)).symm.trans h1_) (by decide), Q_HO142, Q_HA_HO142, Q_HI133_e10, Q_X11_⟩
    refine steps_cons ?_ ?_
    ·rintro b a w' ⟨v141, adz_v141, m11_, ha, Q_HI133, Q_HB, Q_HI133_e1, Q_HI133_e3, Q_HI133_e6, Q_HO142, Q_HA_HO142, Q_HI133_e10, Q_X11_⟩ hb_ hon hoff
     refine ⟨_, rfl, fun K hK => ?_⟩
     have e8 : a.tmps[8]? = some (.string t134) := by rw [ha]; exact putSel_on (e := (1, 8, .string t134)) 0 rfl rfl (hon 1 (by kernel_rfl)) rfl
     replace ha := Aside0.mk ha
     have HB := Aside0.mk Q_HB
     have HI133 := Aside0.mk (Q_HI133_e10 (hon 10 (by kernel_rfl)))
     refine value_ (w1 := w') (v := .string t134) (by rfl) rfl ?_ ?_
     ·go_simp
     refine hK.out _ _ ⟨v141, adz_v141, m11_, (by rw [ha.out]; exact putSel_upk 9 hb_ rfl rfl rfl), fun h0_ => absurd ((hon 1 (by kernel_rfl)).symm.trans h0_) (by decide), Q_HB, fun _ h1_ => absurd ((hon 3 (by kernel_rfl)).symm.trans h1_) (by decide), fun _ h1_ => absurd ((hon 6 (by kernel_rfl)).symm.trans h1_) (by decide), fun _ h1_ => absurd ((hon 10 (by kernel_rfl)).symm.trans h1_) (by decide), Q_HO142, Q_HA_HO142, Q_HI133_e10, Q_X11_⟩
    refine steps_cons ?_ ?_
    ·rintro b a w' ⟨v141, adz_v141, m11_, ha, Q_HI133, Q_HB, Q_HI133_e1, Q_HI133_e3, Q_HI133_e6, Q_HO142, Q_HA_HO142, Q_HI133_e10, Q_X11_⟩ hb_ hon hoff
     refine ⟨_, rfl, fun K hK => ?_⟩
     have e19 : a.tmps[19]? = some (.int .i64 (rd y140 t143)) := by rw [ha]; exact putSel_on (e := (12, 19, .int .i64 (rd y140 t143))) 8 rfl rfl (hon 12 (by kernel_rfl)) rfl
     replace ha := Aside0.mk ha
     have HB := Aside0.mk Q_HB
     have HO142 := Aside0.mk (Q_HO142 (hon 8 (by kernel_rfl)))
     have HA_HO142 := Aside0.mk (Q_HA_HO142 (hon 8 (by kernel_rfl)))
     have HI133 := Aside0.mk (Q_HI133_e10 (hon 10 (by kernel_rfl)))
     refine value_ (w1 := w') (v := .int .i64 (rd y140 t143)) (by rfl) rfl ?_ ?_
     ·go_simp
     refine hK.out _ _ ⟨v141, adz_v141, m11_, (by rw [ha.out]; exact putSel_upk 10 hb_ rfl rfl rfl), fun h0_ => absurd ((hon 1 (by kernel_rfl)).symm.trans h0_) (by decide), Q_HB, fun _ h1_ => absurd ((hon 3 (by kernel_rfl)).symm.trans h1_) (by decide), fun _ h1_ => absurd ((hon 6 (by kernel_rfl)).symm.trans h1_) (by decide), fun _ h1_ => absurd ((hon 10 (by kernel_rfl)).symm.trans h1_) (by decide), Q_HO142, Q_HA_HO142, Q_HI133_e10, Q_X11_⟩
    exact steps_nil
   rintro b a w18 hall ⟨v141, adz_v141, m11_, ha, Q_HI133, Q_HB, Q_HI133_e1, Q_HI133_e3, Q_HI133_e6, Q_HO142, Q_HA_HO142, Q_HI133_e10, Q_X11_⟩
   clear HB HI133
   have hb1_ := hall 1 (by kernel_rfl)
   have hb3_ := hall 3 (by kernel_rfl)
   have hb4_ := hall 4 (by kernel_rfl)
   have hb6_ := hall 6 (by kernel_rfl)
   have hb7_ := hall 7 (by kernel_rfl)
   have hb8_ := hall 8 (by kernel_rfl)
   have hb10_ := hall 10 (by kernel_rfl)
   have hb11_ := hall 11 (by kernel_rfl)
   have hb12_ := hall 12 (by kernel_rfl)
   have hb13_ := hall 13 (by kernel_rfl)
   have hb14_ := hall 14 (by kernel_rfl)
   subst ha
   obtain rfl := Q_X11_ hb11_
   simp only [putSel, hb1_, hb3_, hb4_, hb6_, hb7_, hb8_, hb10_, hb11_, hb12_, hb13_, hb14_, if_true, Act.put, List.setIfInBounds_toArray, List.set_cons_zero, List.set_cons_succ]
   clear Q_HI133
   have HB := Aside0.mk Q_HB
   clear Q_HB
   clear Q_HI133_e1
   clear Q_HI133_e3
   clear Q_HI133_e6
   have HO142 := Aside0.mk (Q_HO142 hb8_)
   clear Q_HO142
   have HA_HO142 := Aside0.mk (Q_HA_HO142 hb8_)
   clear Q_HA_HO142
   have HI133 := Aside0.mk (Q_HI133_e10 hb10_)
   clear Q_HI133_e10
   clear hall hb1_ hb3_ hb4_ hb6_ hb7_ hb8_ hb10_ hb11_ hb12_ hb13_ hb14_
   obtain ⟨co19, eo19⟩ := HA_HO142.out
   clear HA_HO142
   subst eo19
   try go_wp2
   go_ret2
   exact ⟨by first | rfl | (simp [*, errW_none, errW_some] <;> rfl), HB.out⟩
  ·rw [if_neg c8] at H
   exact absurd H (by simp)
 ·rw [if_neg c7] at H
  exact absurd H (by simp)


/-- Index at a separator of one byte (of others nothing is told). -/
def stringslite_Index.f (a0 a1 : ByteArray) : Option Int := if h : a1.size = 1 then some (Lib.indexByte a0.data.toList (a1[0]'(by omega))) else none
theorem stringslite_Index.one (a1 : ByteArray) (h : a1.size = 1) : a1 = ⟨#[a1[0]'(by omega)]⟩ := by
 obtain ⟨⟨l⟩⟩ := a1
 match l, h with
 | [c], _ => rfl
set_option maxHeartbeats 2000000 in
set_option maxRecDepth 100000 in
theorem stringslite_Index.calls_one (s : ByteArray) (c : UInt8) (w : World) :
  Calls Tryd.prog 103 #[.string s, .string ⟨#[c]⟩] w fun e w' => e = .returned (.int .i64 (Lib.indexByte s.data.toList c)) ∧ Drawn0 w w' := by
 have hx : ∀ (t : ByteArray) (d : UInt8) (w1 : World), Calls Tryd.prog 117 #[.string t, .int .u8 d.toNat] w1 fun e w' => e = .returned (.int .i64 (Lib.indexByte t.data.toList d)) ∧ w' = w1 := by
  intro t d w1
  go_enter Tryd.func117, Tryd.ntmps117
  go_wp2
  rw [run_callFunc_extern Tryd.func130 (by kernel_rfl) (by kernel_rfl) (by kernel_rfl) (e := Extern.BytealgIndexByte.indexByte) (by kernel_rfl), Lib.run_indexByteString]
  simp only [Result.andThen]
  rw [Oper.upon_value]
  go_wp2
  go_ret
  exact ⟨by simp, rfl⟩
 go_enter Tryd.func103, Tryd.ntmps103
 go_wp2_with (go_at_call 117; refine (hx _ _ _).mono ?_; rintro e w' ⟨rfl, rfl⟩)
 ·have h : ([c] == s.toList) = true := by assumption
  go_ret
  refine ⟨?_, Drawn0.refl _⟩
  have e : s.data.toList = [c] := by rw [← Lib.toList_data]; exact (beq_iff_eq.1 h).symm
  rw [e]
  simp [Lib.indexByte]
 ·go_ret
  exact ⟨rfl, Drawn0.refl _⟩
theorem stringslite_Index.calls (a0 : ByteArray) (a1 : ByteArray) (r : Int) (w : World) (h : stringslite_Index.f a0 a1 = some r) :
  Calls Tryd.prog 103 #[.string a0, .string a1] w fun e w' => e = .returned (.int .i64 r) ∧ Drawn0 w w' := by
 unfold stringslite_Index.f at h
 split at h
 ·rename_i h1
  obtain rfl := Option.some.inj h
  have e1 := stringslite_Index.one a1 h1
  have := stringslite_Index.calls_one a0 (a1[0]'(by omega)) w
  rw [← e1] at this
  exact this
 ·cases h

def stringslite_Cut.f (a0 : ByteArray) (a1 : ByteArray) : Option (ByteArray × ByteArray × Bool) := (stringslite_Index.f a0 a1).bind fun t146 => (if t146 ≥ 0 then (if 0 ≤ t146 then (if t146 ≤ (a0.size : Int) then (if 0 ≤ (wrap64 (t146 + (a1.size : Int))) then (if (wrap64 (t146 + (a1.size : Int))) ≤ (a0.size : Int) then (some (a0.extract 0 (t146 : Int).toNat, a0.extract ((wrap64 (t146 + (a1.size : Int))) : Int).toNat a0.size, true)) else (none)) else (none)) else (none)) else (none)) else (some (a0, (⟨#[]⟩ : ByteArray), false)))
set_option maxHeartbeats 8000000 in
set_option maxRecDepth 100000 in
theorem stringslite_Cut.calls (a0 : ByteArray) (a1 : ByteArray) (r1 : ByteArray) (r2 : ByteArray) (r3 : Bool) (w : World) (h : stringslite_Cut.f a0 a1 = some (r1, r2, r3)) :
  Calls Tryd.prog 89 #[.string a0, .string a1] w fun e w' => e = .returned (.tuple #[.string r1, .string r2, .bool r3]) ∧ Drawn0 w w' := by
 have H : ((stringslite_Index.f a0 a1).bind fun t146 => (if t146 ≥ 0 then (if 0 ≤ t146 then (if t146 ≤ (a0.size : Int) then (if 0 ≤ (wrap64 (t146 + (a1.size : Int))) then (if (wrap64 (t146 + (a1.size : Int))) ≤ (a0.size : Int) then (some (a0.extract 0 (t146 : Int).toNat, a0.extract ((wrap64 (t146 + (a1.size : Int))) : Int).toNat a0.size, true)) else (none)) else (none)) else (none)) else (none)) else (some (a0, (⟨#[]⟩ : ByteArray), false)))) = some (r1, r2, r3) := h
 clear h
 replace H := Option.bind_eq_some_iff.mp H
 obtain ⟨t146, A30, H⟩ := H
 replace H : (if t146 ≥ 0 then (if 0 ≤ t146 then (if t146 ≤ (a0.size : Int) then (if 0 ≤ (wrap64 (t146 + (a1.size : Int))) then (if (wrap64 (t146 + (a1.size : Int))) ≤ (a0.size : Int) then (some (a0.extract 0 (t146 : Int).toNat, a0.extract ((wrap64 (t146 + (a1.size : Int))) : Int).toNat a0.size, true)) else (none)) else (none)) else (none)) else (none)) else (some (a0, (⟨#[]⟩ : ByteArray), false))) = some (r1, r2, r3) := H
 have A3 := Aside0.mk A30
 clear A30
 by_cases c4 : t146 ≥ 0
 ·rw [if_pos c4] at H
  have c4b0 : decide (0 ≤ t146) = true := decide_eq_true c4
  clear c4
  by_cases c5 : 0 ≤ t146
  ·rw [if_pos c5] at H
   have c5b0 := eq_true c5
   have c5b1 : decide (0 ≤ t146) = true := decide_eq_true c5
   clear c5
   by_cases c6 : t146 ≤ (a0.size : Int)
   ·rw [if_pos c6] at H
    have c6b0 := eq_true c6
    have c6b1 : decide (t146 ≤ (a0.size : Int)) = true := decide_eq_true c6
    clear c6
    obtain ⟨ji7, hji7⟩ : ∃ j_ : Int, (wrap64 (t146 + (a1.size : Int))) = j_ := ⟨_, rfl⟩
    replace H : (if 0 ≤ (ji7) then (if (ji7) ≤ (a0.size : Int) then (some (a0.extract 0 (t146 : Int).toNat, a0.extract ((ji7) : Int).toNat a0.size, true)) else (none)) else (none)) = some (r1, r2, r3) := by first | (rw [hji7] at H; exact H)
    have hji7w : (IntKind.i64.wrap (t146 + (a1.size : Int))) = ji7 := (i64_w _).trans hji7
    by_cases c8 : 0 ≤ (ji7)
    ·rw [if_pos c8] at H
     have c8b0 := eq_true c8
     have c8b1 : decide (0 ≤ (ji7)) = true := decide_eq_true c8
     clear c8
     by_cases c9 : (ji7) ≤ (a0.size : Int)
     ·rw [if_pos c9] at H
      have c9b0 := eq_true c9
      have c9b1 : decide ((ji7) ≤ (a0.size : Int)) = true := decide_eq_true c9
      clear c9
      simp only [Option.some.injEq, Prod.mk.injEq] at H
      obtain ⟨rfl, rfl, rfl⟩ := H
      go_enter Tryd.func89, Tryd.ntmps89
      go_wp2_with (first | (go_at_call 103; (with_reducible refine (stringslite_Index.calls a0 a1 t146 _ A3.out).mono ?_); rintro e w' ⟨rfl, ⟨nd, rfl⟩⟩))
      repeat (go_quiet (fail); try go_wp2_with (fail))
      go_ret3
      exact ⟨by first | rfl | (simp [*]; done), by repeat (first | exact Drawn0.refl _ | apply Drawn0.step)⟩
     ·rw [if_neg c9] at H
      exact absurd H (by simp)
    ·rw [if_neg c8] at H
     exact absurd H (by simp)
   ·rw [if_neg c6] at H
    exact absurd H (by simp)
  ·rw [if_neg c5] at H
   exact absurd H (by simp)
 ·rw [if_neg c4] at H
  have c4b0 : decide (0 ≤ t146) = false := decide_eq_false c4
  clear c4
  simp only [Option.some.injEq, Prod.mk.injEq] at H
  obtain ⟨rfl, rfl, rfl⟩ := H
  go_enter Tryd.func89, Tryd.ntmps89
  go_wp2_with (first | (go_at_call 103; (with_reducible refine (stringslite_Index.calls a0 a1 t146 _ A3.out).mono ?_); rintro e w' ⟨rfl, ⟨nd, rfl⟩⟩))
  repeat (go_quiet (fail); try go_wp2_with (fail))
  go_ret3
  exact ⟨by first | rfl | (simp [*]; done), by repeat (first | exact Drawn0.refl _ | apply Drawn0.step)⟩


def strings_Cut.f (a0 : ByteArray) (a1 : ByteArray) : Option (ByteArray × ByteArray × Bool) := (stringslite_Cut.f a0 a1).bind fun bt147 => (some (bt147.1, bt147.2.1, bt147.2.2))
set_option maxHeartbeats 8000000 in
set_option maxRecDepth 100000 in
theorem strings_Cut.calls (a0 : ByteArray) (a1 : ByteArray) (r1 : ByteArray) (r2 : ByteArray) (r3 : Bool) (w : World) (h : strings_Cut.f a0 a1 = some (r1, r2, r3)) :
  Calls Tryd.prog 78 #[.string a0, .string a1] w fun e w' => e = .returned (.tuple #[.string r1, .string r2, .bool r3]) ∧ Drawn0 w w' := by
 have H : ((stringslite_Cut.f a0 a1).bind fun bt147 => (some (bt147.1, bt147.2.1, bt147.2.2))) = some (r1, r2, r3) := h
 clear h
 replace H := Option.bind_eq_some_iff.mp H
 obtain ⟨⟨t147, t148, t149⟩, A30, H⟩ := H
 replace H : (some (t147, t148, t149)) = some (r1, r2, r3) := H
 have A3 := Aside0.mk A30
 clear A30
 simp only [Option.some.injEq, Prod.mk.injEq] at H
 obtain ⟨rfl, rfl, rfl⟩ := H
 go_enter Tryd.func78, Tryd.ntmps78
 go_wp2_with (first | ((with_reducible refine gate_callee (f := 89) rfl ?_); refine goesL_ (some 9) rfl rfl Tryd.func89 (by kernel_rfl) rfl #[.string a0, .string a1] rfl (by (try simp only [List.map_toArray, List.map_cons, List.map_nil]); first | done | rfl | (simp only [List.length_drop, List.length_take]; rfl)) ?_; (with_reducible refine (stringslite_Cut.calls a0 a1 t147 t148 t149 _ A3.out).mono ?_); rintro e w' ⟨rfl, ⟨nd, rfl⟩⟩; refine ⟨_, rfl, ?_⟩))
 go_ret3
 exact ⟨by first | rfl | (simp; done) | (simp [*]; done), by repeat (first | exact Drawn0.refl _ | apply Drawn0.step)⟩


def stringslite_HasSuffix.f (a0 : ByteArray) (a1 : ByteArray) : Option (Bool) := if (a0.size : Int) ≥ (a1.size : Int) then (if 0 ≤ (wrap64 ((a0.size : Int) - (a1.size : Int))) then (if (wrap64 ((a0.size : Int) - (a1.size : Int))) ≤ (a0.size : Int) then (some ((a0.extract ((wrap64 ((a0.size : Int) - (a1.size : Int))) : Int).toNat a0.size).toList == a1.toList)) else (none)) else (none)) else (some false)
set_option maxHeartbeats 8000000 in
set_option maxRecDepth 100000 in
theorem stringslite_HasSuffix.calls (a0 : ByteArray) (a1 : ByteArray) (r : Bool) (w : World) (h : stringslite_HasSuffix.f a0 a1 = some r) :
  Calls Tryd.prog 104 #[.string a0, .string a1] w fun e w' => e = .returned (.bool r) ∧ Drawn0 w w' := by
 have H : (if (a0.size : Int) ≥ (a1.size : Int) then (if 0 ≤ (wrap64 ((a0.size : Int) - (a1.size : Int))) then (if (wrap64 ((a0.size : Int) - (a1.size : Int))) ≤ (a0.size : Int) then (some ((a0.extract ((wrap64 ((a0.size : Int) - (a1.size : Int))) : Int).toNat a0.size).toList == a1.toList)) else (none)) else (none)) else (some false)) = some r := h
 clear h
 by_cases c3 : (a0.size : Int) ≥ (a1.size : Int)
 ·rw [if_pos c3] at H
  have c3b0 : decide ((a1.size : Int) ≤ (a0.size : Int)) = true := decide_eq_true c3
  have c3b1 : decide (a1.size ≤ a0.size) = true := decide_eq_true (Int.ofNat_le.mp c3)
  clear c3
  obtain ⟨ji4, hji4⟩ : ∃ j_ : Int, (wrap64 ((a0.size : Int) - (a1.size : Int))) = j_ := ⟨_, rfl⟩
  replace H : (if 0 ≤ (ji4) then (if (ji4) ≤ (a0.size : Int) then (some ((a0.extract ((ji4) : Int).toNat a0.size).toList == a1.toList)) else (none)) else (none)) = some r := by first | (rw [hji4] at H; exact H) | (simp only [hji4] at H ⊢; exact H)
  have hji4w : (IntKind.i64.wrap ((a0.size : Int) - (a1.size : Int))) = ji4 := (i64_w _).trans hji4
  by_cases c5 : 0 ≤ (ji4)
  ·rw [if_pos c5] at H
   have c5b0 := eq_true c5
   have c5b1 : decide (0 ≤ (ji4)) = true := decide_eq_true c5
   clear c5
   by_cases c6 : (ji4) ≤ (a0.size : Int)
   ·rw [if_pos c6] at H
    have c6b0 := eq_true c6
    have c6b1 : decide ((ji4) ≤ (a0.size : Int)) = true := decide_eq_true c6
    clear c6
    obtain rfl := Option.some.inj H
    go_enter Tryd.func104, Tryd.ntmps104
    go_wp2
    go_ret
    exact ⟨by first | rfl | (simp; done) | (simp only [← hji4] <;> (first | rfl | simp)) | (simp [*]; done), by repeat (first | exact Drawn0.refl _ | apply Drawn0.step)⟩
   ·rw [if_neg c6] at H
    exact absurd H (by simp)
  ·rw [if_neg c5] at H
   exact absurd H (by simp)
 ·rw [if_neg c3] at H
  have c3b0 : decide ((a1.size : Int) ≤ (a0.size : Int)) = false := decide_eq_false c3
  have c3b1 : decide (a1.size ≤ a0.size) = false := decide_eq_false (fun h => c3 (Int.ofNat_le.mpr h))
  clear c3
  obtain rfl := Option.some.inj H
  go_enter Tryd.func104, Tryd.ntmps104
  go_wp2
  go_ret
  exact ⟨by first | rfl | (simp; done) | (simp [*]; done), by repeat (first | exact Drawn0.refl _ | apply Drawn0.step)⟩


def stringslite_CutSuffix.f (a0 : ByteArray) (a1 : ByteArray) : Option (ByteArray × Bool) := (stringslite_HasSuffix.f a0 a1).bind fun t150 => (if t150 = true then (if 0 ≤ (wrap64 ((a0.size : Int) - (a1.size : Int))) then (if (wrap64 ((a0.size : Int) - (a1.size : Int))) ≤ (a0.size : Int) then (some (a0.extract 0 ((wrap64 ((a0.size : Int) - (a1.size : Int))) : Int).toNat, true)) else (none)) else (none)) else (some (a0, false)))
set_option maxHeartbeats 8000000 in
set_option maxRecDepth 100000 in
theorem stringslite_CutSuffix.calls (a0 : ByteArray) (a1 : ByteArray) (r1 : ByteArray) (r2 : Bool) (w : World) (h : stringslite_CutSuffix.f a0 a1 = some (r1, r2)) :
  Calls Tryd.prog 90 #[.string a0, .string a1] w fun e w' => e = .returned (.tuple #[.string r1, .bool r2]) ∧ Drawn0 w w' := by
 have H : ((stringslite_HasSuffix.f a0 a1).bind fun t150 => (if t150 = true then (if 0 ≤ (wrap64 ((a0.size : Int) - (a1.size : Int))) then (if (wrap64 ((a0.size : Int) - (a1.size : Int))) ≤ (a0.size : Int) then (some (a0.extract 0 ((wrap64 ((a0.size : Int) - (a1.size : Int))) : Int).toNat, true)) else (none)) else (none)) else (some (a0, false)))) = some (r1, r2) := h
 clear h
 replace H := Option.bind_eq_some_iff.mp H
 obtain ⟨t150, A30, H⟩ := H
 replace H : (if t150 = true then (if 0 ≤ (wrap64 ((a0.size : Int) - (a1.size : Int))) then (if (wrap64 ((a0.size : Int) - (a1.size : Int))) ≤ (a0.size : Int) then (some (a0.extract 0 ((wrap64 ((a0.size : Int) - (a1.size : Int))) : Int).toNat, true)) else (none)) else (none)) else (some (a0, false))) = some (r1, r2) := H
 have A3 := Aside0.mk A30
 clear A30
 by_cases c4 : t150 = true
 ·subst c4
  replace H : (if 0 ≤ (wrap64 ((a0.size : Int) - (a1.size : Int))) then (if (wrap64 ((a0.size : Int) - (a1.size : Int))) ≤ (a0.size : Int) then (some (a0.extract 0 ((wrap64 ((a0.size : Int) - (a1.size : Int))) : Int).toNat, true)) else (none)) else (none)) = some (r1, r2) := by rw [if_pos rfl] at H; exact H
  obtain ⟨ji5, hji5⟩ : ∃ j_ : Int, (wrap64 ((a0.size : Int) - (a1.size : Int))) = j_ := ⟨_, rfl⟩
  replace H : (if 0 ≤ (ji5) then (if (ji5) ≤ (a0.size : Int) then (some (a0.extract 0 ((ji5) : Int).toNat, true)) else (none)) else (none)) = some (r1, r2) := by first | (rw [hji5] at H; exact H)
  have hji5w : (IntKind.i64.wrap ((a0.size : Int) - (a1.size : Int))) = ji5 := (i64_w _).trans hji5
  by_cases c6 : 0 ≤ (ji5)
  ·rw [if_pos c6] at H
   have c6b0 := eq_true c6
   have c6b1 : decide (0 ≤ (ji5)) = true := decide_eq_true c6
   clear c6
   by_cases c7 : (ji5) ≤ (a0.size : Int)
   ·rw [if_pos c7] at H
    have c7b0 := eq_true c7
    have c7b1 : decide ((ji5) ≤ (a0.size : Int)) = true := decide_eq_true c7
    clear c7
    simp only [Option.some.injEq, Prod.mk.injEq] at H
    obtain ⟨rfl, rfl⟩ := H
    go_enter Tryd.func90, Tryd.ntmps90
    go_wp2_with (first | ((with_reducible refine gate_callee (f := 104) rfl ?_); refine goesL_ (some 8) rfl rfl Tryd.func104 (by kernel_rfl) rfl #[.string a0, .string a1] rfl (by (try simp only [List.map_toArray, List.map_cons, List.map_nil]); rfl) ?_; (with_reducible refine (stringslite_HasSuffix.calls a0 a1 true _ A3.out).mono ?_); rintro e w' ⟨rfl, ⟨nd, rfl⟩⟩; refine ⟨_, rfl, ?_⟩))
    go_ret2
    exact ⟨by first | rfl | (simp [*]; done), by repeat (first | exact Drawn0.refl _ | apply Drawn0.step)⟩
   ·rw [if_neg c7] at H
    exact absurd H (by simp)
  ·rw [if_neg c6] at H
   exact absurd H (by simp)
 ·replace c4 := Bool.eq_false_iff.mpr c4
  subst c4
  replace H : (some (a0, false)) = some (r1, r2) := by rw [if_neg (show ¬ (false = true) by decide)] at H; exact H
  simp only [Option.some.injEq, Prod.mk.injEq] at H
  obtain ⟨rfl, rfl⟩ := H
  go_enter Tryd.func90, Tryd.ntmps90
  go_wp2_with (first | ((with_reducible refine gate_callee (f := 104) rfl ?_); refine goesL_ (some 8) rfl rfl Tryd.func104 (by kernel_rfl) rfl #[.string a0, .string a1] rfl (by (try simp only [List.map_toArray, List.map_cons, List.map_nil]); rfl) ?_; (with_reducible refine (stringslite_HasSuffix.calls a0 a1 false _ A3.out).mono ?_); rintro e w' ⟨rfl, ⟨nd, rfl⟩⟩; refine ⟨_, rfl, ?_⟩))
  go_ret2
  exact ⟨by first | rfl | (simp [*]; done), by repeat (first | exact Drawn0.refl _ | apply Drawn0.step)⟩


def strings_CutSuffix.f (a0 : ByteArray) (a1 : ByteArray) : Option (ByteArray × Bool) := (stringslite_CutSuffix.f a0 a1).bind fun bt151 => (some (bt151.1, bt151.2))
set_option maxHeartbeats 8000000 in
set_option maxRecDepth 100000 in
theorem strings_CutSuffix.calls (a0 : ByteArray) (a1 : ByteArray) (r1 : ByteArray) (r2 : Bool) (w : World) (h : strings_CutSuffix.f a0 a1 = some (r1, r2)) :
  Calls Tryd.prog 79 #[.string a0, .string a1] w fun e w' => e = .returned (.tuple #[.string r1, .bool r2]) ∧ Drawn0 w w' := by
 have H : ((stringslite_CutSuffix.f a0 a1).bind fun bt151 => (some (bt151.1, bt151.2))) = some (r1, r2) := h
 clear h
 replace H := Option.bind_eq_some_iff.mp H
 obtain ⟨⟨t151, t152⟩, A30, H⟩ := H
 replace H : (some (t151, t152)) = some (r1, r2) := H
 have A3 := Aside0.mk A30
 clear A30
 simp only [Option.some.injEq, Prod.mk.injEq] at H
 obtain ⟨rfl, rfl⟩ := H
 go_enter Tryd.func79, Tryd.ntmps79
 go_wp2_with (first | ((with_reducible refine gate_callee (f := 90) rfl ?_); refine goesL_ (some 8) rfl rfl Tryd.func90 (by kernel_rfl) rfl #[.string a0, .string a1] rfl (by (try simp only [List.map_toArray, List.map_cons, List.map_nil]); first | done | rfl | (simp only [List.length_drop, List.length_take]; rfl)) ?_; (with_reducible refine (stringslite_CutSuffix.calls a0 a1 t151 t152 _ A3.out).mono ?_); rintro e w' ⟨rfl, ⟨nd, rfl⟩⟩; refine ⟨_, rfl, ?_⟩))
 go_ret2
 exact ⟨by first | rfl | (simp; done) | (simp [*]; done), by repeat (first | exact Drawn0.refl _ | apply Drawn0.step)⟩


/-- The signs of a text: all are '0' or '1', and there are at most 60; false otherwise. -/
def impl_signs.ok (l : List UInt8) : Bool := l.all fun c => c == 48 || c == 49
def impl_signs.f (a0 : ByteArray) : Option (List Bool × Bool) :=
 if a0.size < 140737488355328 then
  if impl_signs.ok a0.data.toList then some (a0.data.toList.map (· == 49), decide ((a0.size : Int) ≤ 60)) else some ([], false)
 else none
theorem impl_signs.take (l : List UInt8) (k : Nat) (h : k < l.length) : l.take (k + 1) = l.take k ++ [l.getD k 0] := by
 rw [List.take_succ_eq_append_getElem h]; simp [List.getD, List.getElem?_eq_getElem h]
theorem impl_signs.step (l : List UInt8) (k : Nat) (h : k < l.length) (h0 : impl_signs.ok (l.take k) = true) (hc : l.getD k 0 = 48 ∨ l.getD k 0 = 49) : impl_signs.ok (l.take (k + 1)) = true := by
 rw [impl_signs.take l k h]
 unfold impl_signs.ok at *
 rw [List.all_append, h0]
 simp only [List.all_cons, List.all_nil, Bool.and_true, Bool.true_and]
 rcases hc with hc | hc <;> rw [hc] <;> rfl
theorem impl_signs.stop (l : List UInt8) (k : Nat) (h : k < l.length) (h1 : l.getD k 0 ≠ 48) (h2 : l.getD k 0 ≠ 49) : impl_signs.ok l = false := by
 unfold impl_signs.ok
 rw [List.all_eq_false]
 refine ⟨l.getD k 0, ?_, ?_⟩
 ·simp [List.getD, List.getElem?_eq_getElem h]
 ·simp only [Bool.or_eq_true, beq_iff_eq, not_or]; exact ⟨h1, h2⟩
theorem impl_signs.byte (b : UInt8) (n : Nat) (hn : n < 256) : b = UInt8.ofNat n ↔ (b.toNat : Int) = n := by
 constructor
 ·rintro rfl; simp; omega
 ·intro h
  have : b.toNat = n := by exact_mod_cast h
  subst this; simp
set_option maxHeartbeats 1000000 in
set_option maxRecDepth 100000 in
theorem impl_signs.calls (a0 : ByteArray) (r1 : List Bool) (r2 : Bool) (w : World) (h : impl_signs.f a0 = some (r1, r2)) :
  Calls Tryd.prog 80 #[.string a0] w fun e w' => ∃ v0_ : Value, e = .returned (.tuple #[v0_, .bool r2]) ∧ Kd.R Kd.bool 4 w' w.heap.size (fun _ => True) v0_ r1 ∧ Below w.heap.size w w' := by
 unfold impl_signs.f at h
 split at h
 case isFalse => cases h
 rename_i hs
 have H := Lib.hid h
 clear h
 have hrun := Lib.run_convert_string_bytes (P := Tryd.prog) w 9 22 5 a0 Tryd.underlying9 Tryd.underlying22 Tryd.underlying5
 have hl : a0.data.toList.length = a0.size := Array.length_toList
 have HL := Lib.hid hl
 clear hl
 have HC := Lib.hid (Lib.bytesWorld_cell w 5 a0)
 have HZ := Lib.hid (Lib.bytesWorld_size w 5 a0)
 have HB0 : Aside0 (Below w.heap.size w (Lib.bytesWorld w 5 a0)) := ⟨⟨rfl, rfl, rfl, by have := HZ.out; omega, fun j hj => Lib.bytesWorld_at_old w 5 a0 j hj⟩⟩
 generalize grownCap w a0.size 0 5 = cp at hrun
 generalize Lib.bytesWorld w 5 a0 = w1 at *
 have G0 : Aside0 (w.heap.size ≤ w1.heap.size) := ⟨by have := HZ.out; omega⟩
 go_enter Tryd.func80, Tryd.ntmps80
 go_wp2
 clear hrun
 go_loopw [4, 10] (fun v4 v10 w' => ∃ k : Nat, k ≤ a0.size ∧ v10 = .int .i64 k ∧ Aside0 (impl_signs.ok (a0.data.toList.take k) = true) ∧ Aside0 (Kd.R Kd.bool 4 w' w1.heap.size (fun _ => True) v4 ((a0.data.toList.take k).map (· == 49))) ∧ Aside0 (Below w1.heap.size w1 w')) (fun _ v10 _ => a0.size - (intOf v10).toNat)
 case atStart => exact ⟨0, Nat.zero_le _, rfl, ⟨rfl⟩, ⟨Kd.R_nil _ _ _ _ _⟩, ⟨Below.refl _ _⟩⟩
 case round =>
  obtain ⟨k, hk, rfl, HO, HR, HB⟩ := hrel
  by_cases hlt : k < a0.size
  ·have hcell : wr.cell? ⟨w.heap.size, k, none⟩ = some (.int .u8 ((a0.data.toList.getD k 0).toNat : Int)) := by
    rw [← HC.out k hlt]
    exact HB.out.cell (p := ⟨w.heap.size, k, none⟩) (by have := HZ.out; simp; omega)
   have hstep := impl_signs.take a0.data.toList k (by rw [HL.out]; exact hlt)
   by_cases h48 : a0.data.toList.getD k 0 = 48 ∨ a0.data.toList.getD k 0 = 49
   ·have HN := Lib.hid (impl_signs.step _ _ (by rw [HL.out]; exact hlt) HO.out h48)
    have hlt' : decide ((k : Int) < (a0.size : Int)) = true := by simpa using hlt
    rcases h48 with h48 | h48
    ·rw [h48] at hcell hstep
     have HS := Lib.hid hstep
     clear hstep h48
     go_wp2_with (first | ((with_reducible refine gate_builtin (b := .append) (xs := #[.tmp 20, .tmp 23]) rfl ?_); at_builtin; refine Kd.R_append Kd.bool (w0 := w1) w1.heap.size rfl (.tmp 20) (.tmp 23) 47 4 (.bool false) 1 rfl Tryd.underlying47 info4 rfl (by decide) (by omega) u4 ((a0.data.toList.take k).map (· == 49)) false [.bool false] (fun _ => True) (fun _ => False) rfl rfl ?aP (fun _ hk => hk.elim) ?aF ?aO ?aB ?aS ?aL ?_; (case aP => exact rfl); (case aB => exact HB.out); (case aF => exact (fun _ _ => trivial)); (case aO => exact HR.out); (case aS => exact HB.out.size); (case aL => simp only [List.length_map, List.length_take]; omega); intro v105 w10 ho hb hg hat; clear HB HR; have HB := Aside0.mk hb; have HR := Aside0.mk ho; clear ho hb hg hat))
     go_roundw
     case rel => exact ⟨k + 1, by omega, by go_num, ⟨HN.out⟩, ⟨by rw [HS.out, List.map_append]; exact HR.out⟩, HB⟩
     case measure => simp [intOf]; omega
    ·rw [h48] at hcell hstep
     have HS := Lib.hid hstep
     clear hstep h48
     go_wp2_with (first | ((with_reducible refine gate_builtin (b := .append) (xs := #[.tmp 20, .tmp 23]) rfl ?_); at_builtin; refine Kd.R_append Kd.bool (w0 := w1) w1.heap.size rfl (.tmp 20) (.tmp 23) 47 4 (.bool false) 1 rfl Tryd.underlying47 info4 rfl (by decide) (by omega) u4 ((a0.data.toList.take k).map (· == 49)) true [.bool true] (fun _ => True) (fun _ => False) rfl rfl ?aP2 (fun _ hk => hk.elim) ?aF2 ?aO2 ?aB2 ?aS2 ?aL2 ?_; (case aP2 => exact rfl); (case aB2 => exact HB.out); (case aF2 => exact (fun _ _ => trivial)); (case aO2 => exact HR.out); (case aS2 => exact HB.out.size); (case aL2 => simp only [List.length_map, List.length_take]; omega); intro v105 w10 ho hb hg hat; clear HB HR; have HB := Aside0.mk hb; have HR := Aside0.mk ho; clear ho hb hg hat))
     go_roundw
     case rel => exact ⟨k + 1, by omega, by go_num, ⟨HN.out⟩, ⟨by rw [HS.out, List.map_append]; exact HR.out⟩, HB⟩
     case measure => simp [intOf]; omega
   ·have HN := Lib.hid (impl_signs.stop a0.data.toList k (by rw [HL.out]; exact hlt) (fun h => h48 (.inl h)) (fun h => h48 (.inr h)))
    have hv := @impl_signs.byte
    have n48 : ¬ ((a0.data.toList.getD k 0).toNat : Int) = 48 := fun e => h48 (.inl ((impl_signs.byte _ 48 (by omega)).2 e))
    have n49 : ¬ ((a0.data.toList.getD k 0).toNat : Int) = 49 := fun e => h48 (.inr ((impl_signs.byte _ 49 (by omega)).2 e))
    clear hv hstep h48
    generalize (a0.data.toList.getD k 0).toNat = c at hcell n48 n49
    have m48 : ((c : Int) != 48) = true := by simpa using n48
    have m49 : ((c : Int) != 49) = true := by simpa using n49
    clear n48 n49
    go_wp2
    have HX := H.out
    rw [HN.out] at HX
    simp only [Bool.false_eq_true, if_false, Option.some.injEq, Prod.mk.injEq] at HX
    obtain ⟨rfl, rfl⟩ := HX
    go_ret2
    exact ⟨_, rfl, Kd.R_nil _ _ _ _ _, below_then HB0.out G0.out HB.out⟩
  ·obtain rfl : k = a0.size := by omega
   have hok := HO.out
   have hR := HR.out
   rw [List.take_of_length_le (by rw [HL.out]; exact Nat.le_refl _)] at hok hR
   have HX := H.out
   rw [if_pos hok] at HX
   simp only [Option.some.injEq, Prod.mk.injEq] at HX
   obtain ⟨rfl, rfl⟩ := HX
   have HN := Lib.hid (Kd.R_reads hR)
   have HR' := Lib.hid hR
   clear hok hR
   obtain ⟨A, c, rfl, hlc, _⟩ := HN.out
   clear HN HR
   have HS : ((a0.data.toList.map (· == 49)).length) = a0.size := by rw [List.length_map, HL.out]
   rw [HS] at *
   clear HS
   go_wp2
   go_ret2
   have hR2 := HR'.out
   rw [List.length_map, HL.out] at hR2
   exact ⟨_, rfl, Kd.R_lower hR2 G0.out, below_then HB0.out G0.out HB.out⟩

def impl_setOf.f (a0 : ByteArray) : Option (List Bool × List Bool × Bool) := (strings_Cut.f a0 (⟨#[40]⟩ : ByteArray)).bind fun bt154 => ((strings_CutSuffix.f bt154.2.1 (⟨#[41]⟩ : ByteArray)).bind fun bt157 => ((impl_signs.f bt154.1).bind fun bt159 => ((impl_signs.f bt157.1).bind fun bt163 => (if bt154.2.2 = true then (if bt157.2 = true then (if bt159.2 = true then (if bt163.2 = true then (some (bt159.1, bt163.1, decide ((bt163.1.length : Int) > 0))) else (some (bt159.1, bt163.1, false))) else (some (bt159.1, bt163.1, false))) else (some (bt159.1, bt163.1, false))) else (some (bt159.1, bt163.1, false))))))
set_option maxHeartbeats 8000000 in
set_option maxRecDepth 100000 in
theorem impl_setOf.calls (a0 : ByteArray) (r1 : List Bool) (r2 : List Bool) (r3 : Bool) (w : World) (h : impl_setOf.f a0 = some (r1, r2, r3)) :
  Calls Tryd.prog 62 #[.string a0] w fun e w' => ∃ v0_ v1_ : Value, e = .returned (.tuple #[.agg #[v0_, v1_], .bool r3]) ∧ Kd.R Kd.bool 4 w' w.heap.size (fun k_ => some k_ ≠ (v1_ : Value).ownBlock) v0_ r1 ∧ Kd.R Kd.bool 4 w' w.heap.size (fun k_ => some k_ ≠ (v0_ : Value).ownBlock) v1_ r2 ∧ Below w.heap.size w w' := by
 have hu49 := Tryd.underlying49
 have HB := Aside0.mk (Below.refl w.heap.size w)
 have H : ((strings_Cut.f a0 (⟨#[40]⟩ : ByteArray)).bind fun bt154 => ((strings_CutSuffix.f bt154.2.1 (⟨#[41]⟩ : ByteArray)).bind fun bt157 => ((impl_signs.f bt154.1).bind fun bt159 => ((impl_signs.f bt157.1).bind fun bt163 => (if bt154.2.2 = true then (if bt157.2 = true then (if bt159.2 = true then (if bt163.2 = true then (some (bt159.1, bt163.1, decide ((bt163.1.length : Int) > 0))) else (some (bt159.1, bt163.1, false))) else (some (bt159.1, bt163.1, false))) else (some (bt159.1, bt163.1, false))) else (some (bt159.1, bt163.1, false))))))) = some (r1, r2, r3) := h
 clear h
 replace H := Option.bind_eq_some_iff.mp H
 obtain ⟨⟨t154, t155, t156⟩, A20, H⟩ := H
 replace H : ((strings_CutSuffix.f t155 (⟨#[41]⟩ : ByteArray)).bind fun bt157 => ((impl_signs.f t154).bind fun bt159 => ((impl_signs.f bt157.1).bind fun bt163 => (if t156 = true then (if bt157.2 = true then (if bt159.2 = true then (if bt163.2 = true then (some (bt159.1, bt163.1, decide ((bt163.1.length : Int) > 0))) else (some (bt159.1, bt163.1, false))) else (some (bt159.1, bt163.1, false))) else (some (bt159.1, bt163.1, false))) else (some (bt159.1, bt163.1, false)))))) = some (r1, r2, r3) := H
 have A2 := Aside0.mk A20
 clear A20
 replace H := Option.bind_eq_some_iff.mp H
 obtain ⟨⟨t157, t158⟩, A30, H⟩ := H
 replace H : ((impl_signs.f t154).bind fun bt159 => ((impl_signs.f t157).bind fun bt163 => (if t156 = true then (if t158 = true then (if bt159.2 = true then (if bt163.2 = true then (some (bt159.1, bt163.1, decide ((bt163.1.length : Int) > 0))) else (some (bt159.1, bt163.1, false))) else (some (bt159.1, bt163.1, false))) else (some (bt159.1, bt163.1, false))) else (some (bt159.1, bt163.1, false))))) = some (r1, r2, r3) := H
 have A3 := Aside0.mk A30
 clear A30
 replace H := Option.bind_eq_some_iff.mp H
 obtain ⟨⟨t159, t160⟩, A40, H⟩ := H
 replace H : ((impl_signs.f t157).bind fun bt163 => (if t156 = true then (if t158 = true then (if t160 = true then (if bt163.2 = true then (some (t159, bt163.1, decide ((bt163.1.length : Int) > 0))) else (some (t159, bt163.1, false))) else (some (t159, bt163.1, false))) else (some (t159, bt163.1, false))) else (some (t159, bt163.1, false)))) = some (r1, r2, r3) := H
 have A4 := Aside0.mk A40
 clear A40
 replace H := Option.bind_eq_some_iff.mp H
 obtain ⟨⟨t163, t164⟩, A50, H⟩ := H
 replace H : (if t156 = true then (if t158 = true then (if t160 = true then (if t164 = true then (some (t159, t163, decide ((t163.length : Int) > 0))) else (some (t159, t163, false))) else (some (t159, t163, false))) else (some (t159, t163, false))) else (some (t159, t163, false))) = some (r1, r2, r3) := H
 have A5 := Aside0.mk A50
 clear A50
 by_cases c6 : t156 = true
 ·subst c6
  replace H : (if t158 = true then (if t160 = true then (if t164 = true then (some (t159, t163, decide ((t163.length : Int) > 0))) else (some (t159, t163, false))) else (some (t159, t163, false))) else (some (t159, t163, false))) = some (r1, r2, r3) := by rw [if_pos rfl] at H; exact H
  by_cases c7 : t158 = true
  ·subst c7
   replace H : (if t160 = true then (if t164 = true then (some (t159, t163, decide ((t163.length : Int) > 0))) else (some (t159, t163, false))) else (some (t159, t163, false))) = some (r1, r2, r3) := by rw [if_pos rfl] at H; exact H
   by_cases c8 : t160 = true
   ·subst c8
    replace H : (if t164 = true then (some (t159, t163, decide ((t163.length : Int) > 0))) else (some (t159, t163, false))) = some (r1, r2, r3) := by rw [if_pos rfl] at H; exact H
    by_cases c9 : t164 = true
    all_goals
     first
     |replace c9 := Bool.eq_false_iff.mpr c9
     |skip
     subst c9
     first
     |have H1 : (some (t159, t163, decide ((t163.length : Int) > 0))) = some (r1, r2, r3) := by rw [if_pos rfl] at H; exact H
     |have H1 : (some (t159, t163, false)) = some (r1, r2, r3) := by rw [if_neg (show ¬ (false = true) by decide)] at H; exact H
     clear H
     have H := H1
     clear H1
     simp only [Option.some.injEq, Prod.mk.injEq] at H
     obtain ⟨rfl, rfl, rfl⟩ := H
     go_enter Tryd.func62, Tryd.ntmps62
     go_wp2_with (first | ((with_reducible refine gate_dst (N := 2) rfl ?_); (try (refine gate_guard (by rfl) ?_; dsimp only)); refine box_event ?hg (N := 2) ?hd (cs := #[.slice none 0 0, .slice none 0 0]) (t := 49) ?hr ?_; (case hd => rfl); (case hg => rfl); (case hr => first | (go_simp; done)); intro gb153 hg w10 hbox hb; have BK153 := Aside0.mk hbox; have GW153 := Aside0.mk ((by rw [hg]; exact (below_size HB.out) : w.heap.size ≤ gb153)); have GE153 := Aside0.mk ((by rw [hg]; exact (below_size HB.out) : w.heap.size ≤ gb153)); replace HB := Aside0.mk (below_step HB.out hb); clear hb hbox hg) | ((with_reducible refine gate_callee (f := 78) rfl ?_); refine goesL_ (some 15) rfl rfl Tryd.func78 (by kernel_rfl) rfl #[.string a0, .string (⟨#[40]⟩ : ByteArray)] rfl (by (try simp only [List.map_toArray, List.map_cons, List.map_nil]); rfl) ?_; (with_reducible refine (strings_Cut.calls a0 (⟨#[40]⟩ : ByteArray) t154 t155 true _ A2.out).mono ?_); rintro e w' ⟨rfl, ⟨nd, rfl⟩⟩; refine ⟨_, rfl, ?_⟩; (try (rw [drewN_self w10]; generalize hq_ : World.drewN w10 _ = w10; have n0_ : Aside0 (w10.heap[gb153]? = some (.cells #[.slice none 0 0, .slice none 0 0] 49 (0, 0))) := ⟨by rw [← hq_]; exact (by (with_reducible repeat (refine blk_drewN ?_ _)); exact BK153.out)⟩; have n1_ : Aside0 (Below w.heap.size w w10) := ⟨by rw [← hq_]; exact (by repeat (first | (with_reducible first | exact HB.out | apply pw_below_drewN)))⟩; clear BK153 HB hq_; have BK153 := n0_; have HB := n1_; clear n0_ n1_))) | ((with_reducible refine gate_callee (f := 79) rfl ?_); refine goesL_ (some 21) rfl rfl Tryd.func79 (by kernel_rfl) rfl #[.string t155, .string (⟨#[41]⟩ : ByteArray)] rfl (by (try simp only [List.map_toArray, List.map_cons, List.map_nil]); rfl) ?_; (with_reducible refine (strings_CutSuffix.calls t155 (⟨#[41]⟩ : ByteArray) t157 true _ A3.out).mono ?_); rintro e w' ⟨rfl, ⟨nd, rfl⟩⟩; refine ⟨_, rfl, ?_⟩; (try (rw [drewN_self w10]; generalize hq_ : World.drewN w10 _ = w10; have n0_ : Aside0 (w10.heap[gb153]? = some (.cells #[.slice none 0 0, .slice none 0 0] 49 (0, 0))) := ⟨by rw [← hq_]; exact (by (with_reducible repeat (refine blk_drewN ?_ _)); exact BK153.out)⟩; have n1_ : Aside0 (Below w.heap.size w w10) := ⟨by rw [← hq_]; exact (by repeat (first | (with_reducible first | exact HB.out | apply pw_below_drewN)))⟩; clear BK153 HB hq_; have BK153 := n0_; have HB := n1_; clear n0_ n1_))) | ((with_reducible refine gate_callee (f := 80) rfl ?_); refine goesL_ (some 26) rfl rfl Tryd.func80 (by kernel_rfl) rfl #[.string t154] rfl (by (try simp only [List.map_toArray, List.map_cons, List.map_nil]); rfl) ?_; (with_reducible refine (impl_signs.calls t154 t159 true _ A4.out).mono ?_); rintro e w11 ⟨v161, rfl, ho0, hb⟩; refine ⟨_, rfl, ?_⟩; have HO162 := Aside0.mk (Kd.R_lower ho0 (below_size HB.out)); replace BK153 := Aside0.mk (blk_below (g := gb153) (o := .cells #[.slice none 0 0, .slice none 0 0] 49 (0, 0)) BK153.out hb); replace HB := Aside0.mk (below_step HB.out hb); (try clear hb); (try clear ho0)) | ((with_reducible refine gate_callee (f := 80) rfl ?_); refine goesL_ (some 31) rfl rfl Tryd.func80 (by kernel_rfl) rfl #[.string t157] rfl (by (try simp only [List.map_toArray, List.map_cons, List.map_nil]); rfl) ?_; (with_reducible refine (impl_signs.calls t157 t163 _ _ A5.out).mono ?_); rintro e w12 ⟨v165, rfl, ho0, hb⟩; refine ⟨_, rfl, ?_⟩; have HO166 := Aside0.mk (Kd.R_lower (Kd.R_new' ho0 (Kd.R_lt HO162.out)) (below_size HB.out)); replace HO162 := Aside0.mk (Kd.R_elder' HO162.out (Kd.R_base ho0) hb); replace BK153 := Aside0.mk (blk_below (g := gb153) (o := .cells #[.slice none 0 0, .slice none 0 0] 49 (0, 0)) BK153.out hb); replace HB := Aside0.mk (below_step HB.out hb); (try clear hb); (try clear ho0); obtain ⟨Ao13, co13, eo13⟩ := Kd.R_slice HO166.out; subst eo13; obtain ⟨Ao14, co14, eo14⟩ := Kd.R_slice HO162.out; subst eo14; have hcz15_0 : w12.cell? ⟨gb153, 0, none⟩ = some (.slice none 0 0) := (blk_cell BK153.out 0).trans rfl; have hcz15_1 : w12.cell? ⟨gb153, 1, none⟩ = some (.slice none 0 0) := (blk_cell BK153.out 1).trans rfl; have hfz15_0 := blk_frozen BK153.out 0; have hfz15_1 := blk_frozen BK153.out 1))
     refine bodyPost_ret (results_ct rfl _ _ gb153 49 #[.slice Ao14 t159.length co14, .slice Ao13 t163.length co13] (0, 0) _ rfl (by refine blk_put (cs := #[.slice Ao14 t159.length co14, .slice none 0 0]) ?_ 1 _ rfl; refine blk_put (cs := #[.slice none 0 0, .slice none 0 0]) ?_ 0 _ rfl; exact BK153.out) Tryd.underlying49 rfl (by kernel_rfl)) rfl ?_
     first
     |exact ⟨_, _, by first | (simp [errW_none, errW_some]; exact ⟨rfl, rfl⟩) | (simp [*, errW_none, errW_some] <;> rfl), by exact Kd.R_mono (Kd.R_far (p := ⟨gb153, 1, none⟩) (Kd.R_far (p := ⟨gb153, 0, none⟩) (Kd.R_types HO162.out BK153.out (by decide)) (fun _ hk => hk.2) (.slice Ao14 t159.length co14)) (fun _ hk => hk.2) (.slice Ao13 t163.length co13)) (fun _ hk => hk.1.2), by exact Kd.R_mono (Kd.R_far (p := ⟨gb153, 1, none⟩) (Kd.R_far (p := ⟨gb153, 0, none⟩) (Kd.R_types HO166.out BK153.out (by decide)) (fun _ hk => hk.2) (.slice Ao14 t159.length co14)) (fun _ hk => hk.2) (.slice Ao13 t163.length co13)) (fun _ hk => hk.1.2), by repeat (first | (with_reducible first | exact HB.out | refine below_set ?_ GE153.out))⟩
     |exact ⟨_, _, by first | rfl | (simp [*, errW_none, errW_some] <;> rfl), by exact Kd.R_mono (Kd.R_far (p := ⟨gb153, 1, none⟩) (Kd.R_far (p := ⟨gb153, 0, none⟩) (Kd.R_types HO162.out BK153.out (by decide)) (fun _ hk => hk.2) (.slice Ao14 t159.length co14)) (fun _ hk => hk.2) (.slice Ao13 t163.length co13)) (fun _ hk => hk.1.2), by exact Kd.R_mono (Kd.R_far (p := ⟨gb153, 1, none⟩) (Kd.R_far (p := ⟨gb153, 0, none⟩) (Kd.R_types HO166.out BK153.out (by decide)) (fun _ hk => hk.2) (.slice Ao14 t159.length co14)) (fun _ hk => hk.2) (.slice Ao13 t163.length co13)) (fun _ hk => hk.1.2), by repeat (first | (with_reducible first | exact HB.out | refine below_set ?_ GE153.out))⟩
   ·replace c8 := Bool.eq_false_iff.mpr c8
    subst c8
    replace H : (some (t159, t163, false)) = some (r1, r2, r3) := by rw [if_neg (show ¬ (false = true) by decide)] at H; exact H
    simp only [Option.some.injEq, Prod.mk.injEq] at H
    obtain ⟨rfl, rfl, rfl⟩ := H
    go_enter Tryd.func62, Tryd.ntmps62
    go_wp2_with (first | ((with_reducible refine gate_dst (N := 2) rfl ?_); (try (refine gate_guard (by rfl) ?_; dsimp only)); refine box_event ?hg (N := 2) ?hd (cs := #[.slice none 0 0, .slice none 0 0]) (t := 49) ?hr ?_; (case hd => rfl); (case hg => rfl); (case hr => first | (go_simp; done)); intro gb153 hg w22 hbox hb; have BK153 := Aside0.mk hbox; have GW153 := Aside0.mk ((by rw [hg]; exact (below_size HB.out) : w.heap.size ≤ gb153)); have GE153 := Aside0.mk ((by rw [hg]; exact (below_size HB.out) : w.heap.size ≤ gb153)); replace HB := Aside0.mk (below_step HB.out hb); clear hb hbox hg) | ((with_reducible refine gate_callee (f := 78) rfl ?_); refine goesL_ (some 15) rfl rfl Tryd.func78 (by kernel_rfl) rfl #[.string a0, .string (⟨#[40]⟩ : ByteArray)] rfl (by (try simp only [List.map_toArray, List.map_cons, List.map_nil]); rfl) ?_; (with_reducible refine (strings_Cut.calls a0 (⟨#[40]⟩ : ByteArray) t154 t155 true _ A2.out).mono ?_); rintro e w' ⟨rfl, ⟨nd, rfl⟩⟩; refine ⟨_, rfl, ?_⟩; (try (rw [drewN_self w22]; generalize hq_ : World.drewN w22 _ = w22; have n0_ : Aside0 (w22.heap[gb153]? = some (.cells #[.slice none 0 0, .slice none 0 0] 49 (0, 0))) := ⟨by rw [← hq_]; exact (by (with_reducible repeat (refine blk_drewN ?_ _)); exact BK153.out)⟩; have n1_ : Aside0 (Below w.heap.size w w22) := ⟨by rw [← hq_]; exact (by repeat (first | (with_reducible first | exact HB.out | apply pw_below_drewN)))⟩; clear BK153 HB hq_; have BK153 := n0_; have HB := n1_; clear n0_ n1_))) | ((with_reducible refine gate_callee (f := 79) rfl ?_); refine goesL_ (some 21) rfl rfl Tryd.func79 (by kernel_rfl) rfl #[.string t155, .string (⟨#[41]⟩ : ByteArray)] rfl (by (try simp only [List.map_toArray, List.map_cons, List.map_nil]); rfl) ?_; (with_reducible refine (strings_CutSuffix.calls t155 (⟨#[41]⟩ : ByteArray) t157 true _ A3.out).mono ?_); rintro e w' ⟨rfl, ⟨nd, rfl⟩⟩; refine ⟨_, rfl, ?_⟩; (try (rw [drewN_self w22]; generalize hq_ : World.drewN w22 _ = w22; have n0_ : Aside0 (w22.heap[gb153]? = some (.cells #[.slice none 0 0, .slice none 0 0] 49 (0, 0))) := ⟨by rw [← hq_]; exact (by (with_reducible repeat (refine blk_drewN ?_ _)); exact BK153.out)⟩; have n1_ : Aside0 (Below w.heap.size w w22) := ⟨by rw [← hq_]; exact (by repeat (first | (with_reducible first | exact HB.out | apply pw_below_drewN)))⟩; clear BK153 HB hq_; have BK153 := n0_; have HB := n1_; clear n0_ n1_))) | ((with_reducible refine gate_callee (f := 80) rfl ?_); refine goesL_ (some 26) rfl rfl Tryd.func80 (by kernel_rfl) rfl #[.string t154] rfl (by (try simp only [List.map_toArray, List.map_cons, List.map_nil]); rfl) ?_; (with_reducible refine (impl_signs.calls t154 t159 false _ A4.out).mono ?_); rintro e w23 ⟨v161, rfl, ho0, hb⟩; refine ⟨_, rfl, ?_⟩; have HO162 := Aside0.mk (Kd.R_lower ho0 (below_size HB.out)); replace BK153 := Aside0.mk (blk_below (g := gb153) (o := .cells #[.slice none 0 0, .slice none 0 0] 49 (0, 0)) BK153.out hb); replace HB := Aside0.mk (below_step HB.out hb); (try clear hb); (try clear ho0)) | ((with_reducible refine gate_callee (f := 80) rfl ?_); refine goesL_ (some 31) rfl rfl Tryd.func80 (by kernel_rfl) rfl #[.string t157] rfl (by (try simp only [List.map_toArray, List.map_cons, List.map_nil]); rfl) ?_; (with_reducible refine (impl_signs.calls t157 t163 t164 _ A5.out).mono ?_); rintro e w24 ⟨v165, rfl, ho0, hb⟩; refine ⟨_, rfl, ?_⟩; have HO166 := Aside0.mk (Kd.R_lower (Kd.R_new' ho0 (Kd.R_lt HO162.out)) (below_size HB.out)); replace HO162 := Aside0.mk (Kd.R_elder' HO162.out (Kd.R_base ho0) hb); replace BK153 := Aside0.mk (blk_below (g := gb153) (o := .cells #[.slice none 0 0, .slice none 0 0] 49 (0, 0)) BK153.out hb); replace HB := Aside0.mk (below_step HB.out hb); (try clear hb); (try clear ho0); obtain ⟨Ao25, co25, eo25⟩ := Kd.R_slice HO166.out; subst eo25; obtain ⟨Ao26, co26, eo26⟩ := Kd.R_slice HO162.out; subst eo26; have hcz27_0 : w24.cell? ⟨gb153, 0, none⟩ = some (.slice none 0 0) := (blk_cell BK153.out 0).trans rfl; have hcz27_1 : w24.cell? ⟨gb153, 1, none⟩ = some (.slice none 0 0) := (blk_cell BK153.out 1).trans rfl; have hfz27_0 := blk_frozen BK153.out 0; have hfz27_1 := blk_frozen BK153.out 1))
    refine bodyPost_ret (results_ct rfl _ _ gb153 49 #[.slice Ao26 t159.length co26, .slice Ao25 t163.length co25] (0, 0) _ rfl (by refine blk_put (cs := #[.slice Ao26 t159.length co26, .slice none 0 0]) ?_ 1 _ rfl; refine blk_put (cs := #[.slice none 0 0, .slice none 0 0]) ?_ 0 _ rfl; exact BK153.out) Tryd.underlying49 rfl (by kernel_rfl)) rfl ?_
    exact ⟨_, _, by first | rfl | (simp [*, errW_none, errW_some] <;> rfl), by exact Kd.R_mono (Kd.R_far (p := ⟨gb153, 1, none⟩) (Kd.R_far (p := ⟨gb153, 0, none⟩) (Kd.R_types HO162.out BK153.out (by decide)) (fun _ hk => hk.2) (.slice Ao26 t159.length co26)) (fun _ hk => hk.2) (.slice Ao25 t163.length co25)) (fun _ hk => hk.1.2), by exact Kd.R_mono (Kd.R_far (p := ⟨gb153, 1, none⟩) (Kd.R_far (p := ⟨gb153, 0, none⟩) (Kd.R_types HO166.out BK153.out (by decide)) (fun _ hk => hk.2) (.slice Ao26 t159.length co26)) (fun _ hk => hk.2) (.slice Ao25 t163.length co25)) (fun _ hk => hk.1.2), by repeat (first | (with_reducible first | exact HB.out | refine below_set ?_ GE153.out))⟩
  ·replace c7 := Bool.eq_false_iff.mpr c7
   subst c7
   replace H : (some (t159, t163, false)) = some (r1, r2, r3) := by rw [if_neg (show ¬ (false = true) by decide)] at H; exact H
   simp only [Option.some.injEq, Prod.mk.injEq] at H
   obtain ⟨rfl, rfl, rfl⟩ := H
   go_enter Tryd.func62, Tryd.ntmps62
   go_wp2_with (first | ((with_reducible refine gate_dst (N := 2) rfl ?_); (try (refine gate_guard (by rfl) ?_; dsimp only)); refine box_event ?hg (N := 2) ?hd (cs := #[.slice none 0 0, .slice none 0 0]) (t := 49) ?hr ?_; (case hd => rfl); (case hg => rfl); (case hr => first | (go_simp; done)); intro gb153 hg w28 hbox hb; have BK153 := Aside0.mk hbox; have GW153 := Aside0.mk ((by rw [hg]; exact (below_size HB.out) : w.heap.size ≤ gb153)); have GE153 := Aside0.mk ((by rw [hg]; exact (below_size HB.out) : w.heap.size ≤ gb153)); replace HB := Aside0.mk (below_step HB.out hb); clear hb hbox hg) | ((with_reducible refine gate_callee (f := 78) rfl ?_); refine goesL_ (some 15) rfl rfl Tryd.func78 (by kernel_rfl) rfl #[.string a0, .string (⟨#[40]⟩ : ByteArray)] rfl (by (try simp only [List.map_toArray, List.map_cons, List.map_nil]); rfl) ?_; (with_reducible refine (strings_Cut.calls a0 (⟨#[40]⟩ : ByteArray) t154 t155 true _ A2.out).mono ?_); rintro e w' ⟨rfl, ⟨nd, rfl⟩⟩; refine ⟨_, rfl, ?_⟩; (try (rw [drewN_self w28]; generalize hq_ : World.drewN w28 _ = w28; have n0_ : Aside0 (w28.heap[gb153]? = some (.cells #[.slice none 0 0, .slice none 0 0] 49 (0, 0))) := ⟨by rw [← hq_]; exact (by (with_reducible repeat (refine blk_drewN ?_ _)); exact BK153.out)⟩; have n1_ : Aside0 (Below w.heap.size w w28) := ⟨by rw [← hq_]; exact (by repeat (first | (with_reducible first | exact HB.out | apply pw_below_drewN)))⟩; clear BK153 HB hq_; have BK153 := n0_; have HB := n1_; clear n0_ n1_))) | ((with_reducible refine gate_callee (f := 79) rfl ?_); refine goesL_ (some 21) rfl rfl Tryd.func79 (by kernel_rfl) rfl #[.string t155, .string (⟨#[41]⟩ : ByteArray)] rfl (by (try simp only [List.map_toArray, List.map_cons, List.map_nil]); rfl) ?_; (with_reducible refine (strings_CutSuffix.calls t155 (⟨#[41]⟩ : ByteArray) t157 false _ A3.out).mono ?_); rintro e w' ⟨rfl, ⟨nd, rfl⟩⟩; refine ⟨_, rfl, ?_⟩; (try (rw [drewN_self w28]; generalize hq_ : World.drewN w28 _ = w28; have n0_ : Aside0 (w28.heap[gb153]? = some (.cells #[.slice none 0 0, .slice none 0 0] 49 (0, 0))) := ⟨by rw [← hq_]; exact (by (with_reducible repeat (refine blk_drewN ?_ _)); exact BK153.out)⟩; have n1_ : Aside0 (Below w.heap.size w w28) := ⟨by rw [← hq_]; exact (by repeat (first | (with_reducible first | exact HB.out | apply pw_below_drewN)))⟩; clear BK153 HB hq_; have BK153 := n0_; have HB := n1_; clear n0_ n1_))) | ((with_reducible refine gate_callee (f := 80) rfl ?_); refine goesL_ (some 26) rfl rfl Tryd.func80 (by kernel_rfl) rfl #[.string t154] rfl (by (try simp only [List.map_toArray, List.map_cons, List.map_nil]); rfl) ?_; (with_reducible refine (impl_signs.calls t154 t159 t160 _ A4.out).mono ?_); rintro e w29 ⟨v161, rfl, ho0, hb⟩; refine ⟨_, rfl, ?_⟩; have HO162 := Aside0.mk (Kd.R_lower ho0 (below_size HB.out)); replace BK153 := Aside0.mk (blk_below (g := gb153) (o := .cells #[.slice none 0 0, .slice none 0 0] 49 (0, 0)) BK153.out hb); replace HB := Aside0.mk (below_step HB.out hb); (try clear hb); (try clear ho0)) | ((with_reducible refine gate_callee (f := 80) rfl ?_); refine goesL_ (some 31) rfl rfl Tryd.func80 (by kernel_rfl) rfl #[.string t157] rfl (by (try simp only [List.map_toArray, List.map_cons, List.map_nil]); rfl) ?_; (with_reducible refine (impl_signs.calls t157 t163 t164 _ A5.out).mono ?_); rintro e w30 ⟨v165, rfl, ho0, hb⟩; refine ⟨_, rfl, ?_⟩; have HO166 := Aside0.mk (Kd.R_lower (Kd.R_new' ho0 (Kd.R_lt HO162.out)) (below_size HB.out)); replace HO162 := Aside0.mk (Kd.R_elder' HO162.out (Kd.R_base ho0) hb); replace BK153 := Aside0.mk (blk_below (g := gb153) (o := .cells #[.slice none 0 0, .slice none 0 0] 49 (0, 0)) BK153.out hb); replace HB := Aside0.mk (below_step HB.out hb); (try clear hb); (try clear ho0); obtain ⟨Ao31, co31, eo31⟩ := Kd.R_slice HO166.out; subst eo31; obtain ⟨Ao32, co32, eo32⟩ := Kd.R_slice HO162.out; subst eo32; have hcz33_0 : w30.cell? ⟨gb153, 0, none⟩ = some (.slice none 0 0) := (blk_cell BK153.out 0).trans rfl; have hcz33_1 : w30.cell? ⟨gb153, 1, none⟩ = some (.slice none 0 0) := (blk_cell BK153.out 1).trans rfl; have hfz33_0 := blk_frozen BK153.out 0; have hfz33_1 := blk_frozen BK153.out 1))
   refine bodyPost_ret (results_ct rfl _ _ gb153 49 #[.slice Ao32 t159.length co32, .slice Ao31 t163.length co31] (0, 0) _ rfl (by refine blk_put (cs := #[.slice Ao32 t159.length co32, .slice none 0 0]) ?_ 1 _ rfl; refine blk_put (cs := #[.slice none 0 0, .slice none 0 0]) ?_ 0 _ rfl; exact BK153.out) Tryd.underlying49 rfl (by kernel_rfl)) rfl ?_
   exact ⟨_, _, by first | rfl | (simp [*, errW_none, errW_some] <;> rfl), by exact Kd.R_mono (Kd.R_far (p := ⟨gb153, 1, none⟩) (Kd.R_far (p := ⟨gb153, 0, none⟩) (Kd.R_types HO162.out BK153.out (by decide)) (fun _ hk => hk.2) (.slice Ao32 t159.length co32)) (fun _ hk => hk.2) (.slice Ao31 t163.length co31)) (fun _ hk => hk.1.2), by exact Kd.R_mono (Kd.R_far (p := ⟨gb153, 1, none⟩) (Kd.R_far (p := ⟨gb153, 0, none⟩) (Kd.R_types HO166.out BK153.out (by decide)) (fun _ hk => hk.2) (.slice Ao32 t159.length co32)) (fun _ hk => hk.2) (.slice Ao31 t163.length co31)) (fun _ hk => hk.1.2), by repeat (first | (with_reducible first | exact HB.out | refine below_set ?_ GE153.out))⟩
 ·replace c6 := Bool.eq_false_iff.mpr c6
  subst c6
  replace H : (some (t159, t163, false)) = some (r1, r2, r3) := by rw [if_neg (show ¬ (false = true) by decide)] at H; exact H
  simp only [Option.some.injEq, Prod.mk.injEq] at H
  obtain ⟨rfl, rfl, rfl⟩ := H
  go_enter Tryd.func62, Tryd.ntmps62
  go_wp2_with (first | ((with_reducible refine gate_dst (N := 2) rfl ?_); (try (refine gate_guard (by rfl) ?_; dsimp only)); refine box_event ?hg (N := 2) ?hd (cs := #[.slice none 0 0, .slice none 0 0]) (t := 49) ?hr ?_; (case hd => rfl); (case hg => rfl); (case hr => first | (go_simp; done)); intro gb153 hg w34 hbox hb; have BK153 := Aside0.mk hbox; have GW153 := Aside0.mk ((by rw [hg]; exact (below_size HB.out) : w.heap.size ≤ gb153)); have GE153 := Aside0.mk ((by rw [hg]; exact (below_size HB.out) : w.heap.size ≤ gb153)); replace HB := Aside0.mk (below_step HB.out hb); clear hb hbox hg) | ((with_reducible refine gate_callee (f := 78) rfl ?_); refine goesL_ (some 15) rfl rfl Tryd.func78 (by kernel_rfl) rfl #[.string a0, .string (⟨#[40]⟩ : ByteArray)] rfl (by (try simp only [List.map_toArray, List.map_cons, List.map_nil]); rfl) ?_; (with_reducible refine (strings_Cut.calls a0 (⟨#[40]⟩ : ByteArray) t154 t155 false _ A2.out).mono ?_); rintro e w' ⟨rfl, ⟨nd, rfl⟩⟩; refine ⟨_, rfl, ?_⟩; (try (rw [drewN_self w34]; generalize hq_ : World.drewN w34 _ = w34; have n0_ : Aside0 (w34.heap[gb153]? = some (.cells #[.slice none 0 0, .slice none 0 0] 49 (0, 0))) := ⟨by rw [← hq_]; exact (by (with_reducible repeat (refine blk_drewN ?_ _)); exact BK153.out)⟩; have n1_ : Aside0 (Below w.heap.size w w34) := ⟨by rw [← hq_]; exact (by repeat (first | (with_reducible first | exact HB.out | apply pw_below_drewN)))⟩; clear BK153 HB hq_; have BK153 := n0_; have HB := n1_; clear n0_ n1_))) | ((with_reducible refine gate_callee (f := 79) rfl ?_); refine goesL_ (some 21) rfl rfl Tryd.func79 (by kernel_rfl) rfl #[.string t155, .string (⟨#[41]⟩ : ByteArray)] rfl (by (try simp only [List.map_toArray, List.map_cons, List.map_nil]); rfl) ?_; (with_reducible refine (strings_CutSuffix.calls t155 (⟨#[41]⟩ : ByteArray) t157 t158 _ A3.out).mono ?_); rintro e w' ⟨rfl, ⟨nd, rfl⟩⟩; refine ⟨_, rfl, ?_⟩; (try (rw [drewN_self w34]; generalize hq_ : World.drewN w34 _ = w34; have n0_ : Aside0 (w34.heap[gb153]? = some (.cells #[.slice none 0 0, .slice none 0 0] 49 (0, 0))) := ⟨by rw [← hq_]; exact (by (with_reducible repeat (refine blk_drewN ?_ _)); exact BK153.out)⟩; have n1_ : Aside0 (Below w.heap.size w w34) := ⟨by rw [← hq_]; exact (by repeat (first | (with_reducible first | exact HB.out | apply pw_below_drewN)))⟩; clear BK153 HB hq_; have BK153 := n0_; have HB := n1_; clear n0_ n1_))) | ((with_reducible refine gate_callee (f := 80) rfl ?_); refine goesL_ (some 26) rfl rfl Tryd.func80 (by kernel_rfl) rfl #[.string t154] rfl (by (try simp only [List.map_toArray, List.map_cons, List.map_nil]); rfl) ?_; (with_reducible refine (impl_signs.calls t154 t159 t160 _ A4.out).mono ?_); rintro e w35 ⟨v161, rfl, ho0, hb⟩; refine ⟨_, rfl, ?_⟩; have HO162 := Aside0.mk (Kd.R_lower ho0 (below_size HB.out)); replace BK153 := Aside0.mk (blk_below (g := gb153) (o := .cells #[.slice none 0 0, .slice none 0 0] 49 (0, 0)) BK153.out hb); replace HB := Aside0.mk (below_step HB.out hb); (try clear hb); (try clear ho0)) | ((with_reducible refine gate_callee (f := 80) rfl ?_); refine goesL_ (some 31) rfl rfl Tryd.func80 (by kernel_rfl) rfl #[.string t157] rfl (by (try simp only [List.map_toArray, List.map_cons, List.map_nil]); rfl) ?_; (with_reducible refine (impl_signs.calls t157 t163 t164 _ A5.out).mono ?_); rintro e w36 ⟨v165, rfl, ho0, hb⟩; refine ⟨_, rfl, ?_⟩; have HO166 := Aside0.mk (Kd.R_lower (Kd.R_new' ho0 (Kd.R_lt HO162.out)) (below_size HB.out)); replace HO162 := Aside0.mk (Kd.R_elder' HO162.out (Kd.R_base ho0) hb); replace BK153 := Aside0.mk (blk_below (g := gb153) (o := .cells #[.slice none 0 0, .slice none 0 0] 49 (0, 0)) BK153.out hb); replace HB := Aside0.mk (below_step HB.out hb); (try clear hb); (try clear ho0); obtain ⟨Ao37, co37, eo37⟩ := Kd.R_slice HO166.out; subst eo37; obtain ⟨Ao38, co38, eo38⟩ := Kd.R_slice HO162.out; subst eo38; have hcz39_0 : w36.cell? ⟨gb153, 0, none⟩ = some (.slice none 0 0) := (blk_cell BK153.out 0).trans rfl; have hcz39_1 : w36.cell? ⟨gb153, 1, none⟩ = some (.slice none 0 0) := (blk_cell BK153.out 1).trans rfl; have hfz39_0 := blk_frozen BK153.out 0; have hfz39_1 := blk_frozen BK153.out 1))
  refine bodyPost_ret (results_ct rfl _ _ gb153 49 #[.slice Ao38 t159.length co38, .slice Ao37 t163.length co37] (0, 0) _ rfl (by refine blk_put (cs := #[.slice Ao38 t159.length co38, .slice none 0 0]) ?_ 1 _ rfl; refine blk_put (cs := #[.slice none 0 0, .slice none 0 0]) ?_ 0 _ rfl; exact BK153.out) Tryd.underlying49 rfl (by kernel_rfl)) rfl ?_
  exact ⟨_, _, by first | rfl | (simp [*, errW_none, errW_some] <;> rfl), by exact Kd.R_mono (Kd.R_far (p := ⟨gb153, 1, none⟩) (Kd.R_far (p := ⟨gb153, 0, none⟩) (Kd.R_types HO162.out BK153.out (by decide)) (fun _ hk => hk.2) (.slice Ao38 t159.length co38)) (fun _ hk => hk.2) (.slice Ao37 t163.length co37)) (fun _ hk => hk.1.2), by exact Kd.R_mono (Kd.R_far (p := ⟨gb153, 1, none⟩) (Kd.R_far (p := ⟨gb153, 0, none⟩) (Kd.R_types HO166.out BK153.out (by decide)) (fun _ hk => hk.2) (.slice Ao38 t159.length co38)) (fun _ hk => hk.2) (.slice Ao37 t163.length co37)) (fun _ hk => hk.1.2), by repeat (first | (with_reducible first | exact HB.out | refine below_set ?_ GE153.out))⟩


def impl_turns.l0 : Nat → List Bool → Int → Int → Int → Option (Bool)
 | 0, _, _, _, _ => none
 | k + 1, x0, x1, x7, x8 => if x8 < x7 then (if 0 ≤ x8 then (if x8 < (x0.length : Int) then (if x1 = 0 then (none) else (if 0 ≤ (Int.tmod x8 x1) then (if (Int.tmod x8 x1) < (x0.length : Int) then (if ((rdOf false x0 x8) != (rdOf false x0 (Int.tmod x8 x1))) = true then (some false) else (impl_turns.l0 k x0 x1 x7 (wrap64 (x8 + 1)))) else (none)) else (none))) else (none)) else (none)) else (if x1 = 0 then (none) else (some (((x0.length : Int) % x1) == 0)))
def impl_turns.f (k : Nat) (l0 : List Bool) (a1 : Int) : Option (Bool) := impl_turns.l0 k l0 a1 (l0.length : Int) 0
theorem impl_turns.mono_l : ∀ k, (∀ y0 y1 y2 y3, LeO (impl_turns.l0 k y0 y1 y2 y3) (impl_turns.l0 (k + 1) y0 y1 y2 y3))
 | 0 => fun _ _ _ _ r h => by simp [impl_turns.l0] at h
 | k + 1 => by
  have ih0 := impl_turns.mono_l k
  ·intro y0 y1 y2 y3
   unfold impl_turns.l0
   repeat' first | (with_reducible exact ih0 _ _ _ _) | (with_reducible exact LeO.refl _) | (with_reducible refine LeO.ite ?_ ?_)
theorem impl_turns.mono : ∀ a0 a1 k, LeO (impl_turns.f k a0 a1) (impl_turns.f (k + 1) a0 a1) := by
 intro a0 a1 k
 have ih0 := impl_turns.mono_l k
 unfold impl_turns.f
 repeat' (with_reducible exact ih0 _ _ _ _)
set_option maxHeartbeats 8000000 in
set_option maxRecDepth 100000 in
theorem impl_turns.calls (k : Nat) (A0 : Option Addr) (c0 : Nat) (l0 : List Bool) (a1 : Int) (r : Bool) (w : World) (hr0 : Kd.C Kd.bool w A0 l0.length l0) (hc0 : l0.length ≤ c0) (h : impl_turns.f k l0 a1 = some r) :
  Calls Tryd.prog 92 #[.slice A0 l0.length c0, .int .i64 a1] w fun e w' => e = .returned (.bool r) ∧ Drawn0 w w' := by
 have HR0 := Aside0.mk hr0
 have HC0 := Aside0.mk hc0
 clear hr0 hc0
 have H : (impl_turns.l0 k l0 a1 (l0.length : Int) 0) = some r := h
 clear h
 have H' := Aside0.mk H
 clear H
 go_enter Tryd.func92, Tryd.ntmps92
 go_wp2
 repeat (go_quiet (fail); try go_wp2)
 go_loopg [8] k (fun kq v8 w' => ∃ (x8_1 : Int), v8 = .int .i64 x8_1 ∧ Aside0 (impl_turns.l0 kq l0 a1 (l0.length : Int) x8_1 = some r) ∧ Aside0 (kq ≤ k) ∧ Drawn0 w w')
 case atStart => exact ⟨(0), (by rfl), H', ⟨Nat.le_refl _⟩, by repeat (exact Drawn0.refl _)⟩
 case round =>
  clear H'
  obtain ⟨x8_1, rfl, HA, HK1, ⟨m1, rfl⟩⟩ := hrel
  cases gk with
  | zero => exact absurd HA.out (by simp [impl_turns.l0])
  | succ k1 =>
   have H := HA.out
   clear HA
   simp only [impl_turns.l0] at H
   by_cases c3 : x8_1 < (l0.length : Int)
   ·rw [if_pos c3] at H
    have c3b0 : decide (x8_1 < (l0.length : Int)) = true := decide_eq_true c3
    clear c3
    by_cases c4 : 0 ≤ x8_1
    ·rw [if_pos c4] at H
     have c4b0 : decide (0 ≤ x8_1) = true := decide_eq_true c4
     clear c4
     by_cases c5 : x8_1 < (l0.length : Int)
     ·rw [if_pos c5] at H
      have c5b0 : decide (x8_1 < (l0.length : Int)) = true := decide_eq_true c5
      clear c5
      by_cases c6 : a1 = 0
      ·rw [if_pos c6] at H
       exact absurd H (by simp)
      ·rw [if_neg c6] at H
       have c6b0 : (a1 == 0) = false := beq_eq_false_iff_ne.mpr c6
       have c6b1 : (a1 != 0) = true := bne_iff_ne.mpr c6
       obtain ⟨ji7, hji7⟩ : ∃ j_ : Int, (Int.tmod x8_1 a1) = j_ := ⟨_, rfl⟩
       replace H : (if 0 ≤ (ji7) then (if (ji7) < (l0.length : Int) then (if ((rdOf false l0 x8_1) != (rdOf false l0 (ji7))) = true then (some false) else (impl_turns.l0 k1 l0 a1 (l0.length : Int) (wrap64 (x8_1 + 1)))) else (none)) else (none)) = some r := by first | (rw [hji7] at H; exact H)
       by_cases c8 : 0 ≤ (ji7)
       ·rw [if_pos c8] at H
        have c8b0 : decide (0 ≤ (ji7)) = true := decide_eq_true c8
        clear c8
        by_cases c9 : (ji7) < (l0.length : Int)
        ·rw [if_pos c9] at H
         have c9b0 : decide ((ji7) < (l0.length : Int)) = true := decide_eq_true c9
         clear c9
         by_cases c10 : ((rdOf false l0 x8_1) != (rdOf false l0 (ji7))) = true
         all_goals
          first
          |rw [if_pos c10] at H
           have c10b0 : ((rdOf false l0 x8_1) != (rdOf false l0 (ji7))) = true := c10
           (try (have c10b1 : decide ((rdOf false l0 x8_1) = (rdOf false l0 (ji7))) = false := by simpa using c10))
           (try (have c10b2 : ((rdOf false l0 x8_1) == (rdOf false l0 (ji7))) = false := by simpa using c10))
           (try (have c10b3 : ¬ ((rdOf false l0 x8_1) = (rdOf false l0 (ji7))) := by simpa using c10))
          |rw [if_neg c10] at H
           have c10b0 : ((rdOf false l0 x8_1) != (rdOf false l0 (ji7))) = false := by simpa using c10
           (try (have c10b1 : decide ((rdOf false l0 x8_1) = (rdOf false l0 (ji7))) = true := by simpa using c10))
           (try (have c10b2 : ((rdOf false l0 x8_1) == (rdOf false l0 (ji7))) = true := by simpa using c10))
          clear c10
          first
          |obtain rfl := Option.some.inj H
          |have H' := Aside0.mk H
           clear H
          have p167 : 0 ≤ (x8_1 : Int) := of_decide_eq_true (by (with_reducible assumption))
          have q167 : x8_1 < (l0.length : Int) := of_decide_eq_true (by (with_reducible assumption))
          obtain ⟨ad167, e167, hx167_0⟩ := Kd.at_bool HR0.out x8_1 p167 q167
          cases e167
          replace p167 := eq_true p167
          replace q167 := eq_true q167
          have p168 : 0 ≤ ((ji7) : Int) := of_decide_eq_true (by (with_reducible assumption))
          have q168 : (ji7) < (l0.length : Int) := of_decide_eq_true (by (with_reducible assumption))
          obtain ⟨ad168, e168, hx168_0⟩ := Kd.at_bool HR0.out (ji7) p168 q168
          obtain rfl : ad167 = ad168 := (by injection e168)
          replace p168 := eq_true p168
          replace q168 := eq_true q168
          go_wp2
          repeat (go_quiet (fail); try go_wp2)
          first
          |go_ret
           exact ⟨by first | rfl | (simp [*]; done), by repeat (first | exact Drawn0.refl _ | apply Drawn0.step)⟩
          |go_roundg k1
           case measure => have := HK1.out; omega
           case rel => exact ⟨(wrap64 (x8_1 + 1)), (by rfl), H', ⟨by have := HK1.out; omega⟩, by repeat (first | exact Drawn0.refl _ | apply Drawn0.step)⟩
        ·rw [if_neg c9] at H
         exact absurd H (by simp)
       ·rw [if_neg c8] at H
        exact absurd H (by simp)
     ·rw [if_neg c5] at H
      exact absurd H (by simp)
    ·rw [if_neg c4] at H
     exact absurd H (by simp)
   ·rw [if_neg c3] at H
    have c3b0 : decide (x8_1 < (l0.length : Int)) = false := decide_eq_false c3
    clear c3
    by_cases c11 : a1 = 0
    ·rw [if_pos c11] at H
     exact absurd H (by simp)
    ·rw [if_neg c11] at H
     have c11b0 : (a1 == 0) = false := beq_eq_false_iff_ne.mpr c11
     have c11b1 : (a1 != 0) = true := bne_iff_ne.mpr c11
     obtain rfl := Option.some.inj H
     go_wp2
     repeat (go_quiet (fail); try go_wp2)
     go_ret
     exact ⟨by first | rfl | (simp [*]; done), by repeat (first | exact Drawn0.refl _ | apply Drawn0.step)⟩


/-- A copy. -/
def slices_Clone_bool_bool.f (l0 : List Bool) : Option (List Bool) := if l0.length < 140737488355328 then some l0 else none
set_option maxHeartbeats 1000000 in
set_option maxRecDepth 100000 in
theorem slices_Clone_bool_bool.calls (A0 : Option Addr) (c0 : Nat) (l0 : List Bool) (r : List Bool) (w : World) (hr0 : Kd.C Kd.bool w A0 l0.length l0) (hc0 : l0.length ≤ c0) (h : slices_Clone_bool_bool.f l0 = some r) :
  Calls Tryd.prog 93 #[.slice A0 l0.length c0] w fun e w' => ∃ v0_ : Value, e = .returned (v0_) ∧ Kd.R Kd.bool 4 w' w.heap.size (fun _ => True) v0_ r ∧ Below w.heap.size w w' := by
 unfold slices_Clone_bool_bool.f at h
 split at h
 case isFalse => cases h
 rename_i hs
 obtain rfl := Option.some.inj h
 clear h
 have HR := Lib.hid hr0
 have hrun := Lib.run_eql_slice_nil (P := Tryd.prog) w 47 4 A0 l0.length c0 0 0 Tryd.underlying47
 have HC := Lib.hid (Kd.R_nil Kd.bool 4 w w.heap.size (fun _ => True))
 cases A0 with
 | none =>
  have hl : l0.length = 0 := by
   rcases Nat.eq_zero_or_pos l0.length with h | h
   ·exact h
   ·obtain ⟨ad, e, _⟩ := hr0.2.2 h
    cases e
  have hl2 : l0 = [] := List.length_eq_zero_iff.1 hl
  subst hl2
  clear hr0 hl
  simp only [List.length_nil, Option.isNone_none] at hrun
  rw [List.length_nil]
  go_enter Tryd.func93, Tryd.ntmps93
  go_wp2
  go_ret
  exact ⟨_, rfl, HC.out, Below.refl _ _⟩
 | some ad =>
  clear hr0
  simp only [Option.isNone_some] at hrun
  go_enter Tryd.func93, Tryd.ntmps93
  go_wp2_with (first | ((with_reducible refine gate_dst (N := 5) rfl ?_); refine Kd.R_lit Kd.bool _ 4 ?hg (N := 5) ?hd (xs := ([] : List Bool)) (inner := []) (ok := fun _ => True) (okp := fun _ => True) ?hr ?hp (fun _ hk => hk) trivial (Below.refl _ _) (Nat.le_refl _) (by simp) ?_; (case hd => rfl); (case hg => rfl); (case hr => first | (go_simp; done) | (go_simp; rfl)); (case hp => exact (Reps.none _ _)); intro v102 w2 ho3 hb hg_ hnew_; clear hg_ hnew_; have HO := Aside0.mk ho3; have HB := Aside0.mk hb; clear ho3 hb) | ((with_reducible refine gate_builtin (b := .append) (xs := #[.tmp 5, .tmp 6]) rfl ?_); at_builtin; refine Kd.R_append_row Value.bool false (w0 := w) w.heap.size rfl (.tmp 5) (.tmp 6) 47 4 (.bool false) 1 rfl Tryd.underlying47 info4 rfl (by decide) _ [] l0 (some ad) l0.length c0 (fun _ => True) rfl rfl (fun _ _ => trivial) HO.out (Kd.C_below HR.out HB.out) HB.out HB.out.size (by simp; omega) ?_; intro v103 w3 ho hb hg hat; clear hg hat HB HO; have HB := Aside0.mk hb; have HO := Aside0.mk ho; clear ho hb))
  go_ret
  exact ⟨_, rfl, HO.out, HB.out⟩
end Go.Proofs.YtinjblbfaijhdaaDoor.Q
