/- A number is told by some row; no condition beyond the statement's own. -/
import Derived.Test.YtdoghlojgofmaaaCFnRowsSet10
import Derived.Test.YtdoghlojgofmaaaCFnRowsSet11
import Derived.Test.YtdoghlojgofmaaaCFnRowsSet12
import Derived.Test.YtdoghlojgofmaaaCFnRowsSet13
import Derived.Test.YtdoghlojgofmaaaCFnRowsSet14
import Derived.Test.YtdoghlojgofmaaaCFnRowsSet15
namespace Go.Proofs.Ytdoghlojgofmaaa.Q
open Go.RowKit Go.Proofs.YtdoghlojgofmaaaW.PrintWords Go.Proofs.YtdoghlojgofmaaaW.PrintLast Go.Proofs.YtdoghlojgofmaaaW.PrintMore
attribute [local go_sem] max2_int min2_int max_two min_two max_three min_three max_four min_four   -- for this text's walks alone
set_option linter.unusedVariables false
set_option linter.unusedSimpArgs false
def impl_RowsSet.p (list : List S79) (n : Int) : Option Bool := RowAny.f list (fun x => impl_row_has.f x.f0 x.f1 n)
def impl_RowsSet.f (k : Nat) (l0 : List (List Int)) : Option (ByteArray × Bool) := (impl_rowsOf.f k l0).bind fun y => (impl_moving.f y.1).bind fun ms => (impl_again.f k ms).bind fun size => if y.2 = true then (if size = 0 then some (⟨#[]⟩, false) else if y.1.length < 1000 then impl_made.f k 60 size (impl_RowsSet.p y.1) else none) else some (⟨#[]⟩, false)
theorem impl_RowsSet.mono : ∀ l0 k, LeO (impl_RowsSet.f k l0) (impl_RowsSet.f (k + 1) l0) := fun l0 k => LeO.bind (impl_rowsOf.mono _ _) (fun _ => LeO.bind (LeO.refl _) (fun _ => LeO.bind (impl_again.mono _ _) (fun _ => LeO.ite (LeO.ite (LeO.refl _) (LeO.ite (impl_made.mono _ _ (fun _ => LeO.refl _) _ _ _) (LeO.refl _))) (LeO.refl _))))
set_option maxHeartbeats 1000000 in
set_option maxRecDepth 100000 in
theorem impl_RowsSet.lit1 (B : Nat) (n : Int) (x : S79) (q : Bool) (W : World) (h1 : W.heap[B]? = some (.cells #[.int .i64 n] 3 (0, 0))) (h : impl_row_has.f x.f0 x.f1 n = some q) :
  Calls Try.prog 49 #[.agg #[.int .i64 x.f0, .int .i64 x.f1], .pointer (some ⟨B, 0, none⟩)] W fun e W' => e = .returned (.bool q) ∧ Below W.heap.size W W' := by
 have H := Aside0.mk h
 have c0 := blk_cell (blk_alloc h1 (.cells #[.int .i64 x.f0, .int .i64 x.f1] 79 (0, 0))) 0
 clear h h1
 go_enter Try.func49, Try.ntmps49
 go_wp2_with (go_at_call 50; refine (impl_row_has.calls x.f0 x.f1 n q _ H.out).mono ?_; rintro e w2 ⟨rfl, hd⟩; have HB := Aside0.mk (below_step (below_alloc (Below.refl W.heap.size W) _) hd); clear hd)
 go_ret
 exact ⟨rfl, HB.out⟩
set_option maxHeartbeats 1000000 in
set_option maxRecDepth 100000 in
theorem impl_RowsSet.lit (B : Nat) (A : Option Addr) (c : Nat) (list : List S79) (n : Int) (q : Bool) (W : World) (h1 : W.heap[B]? = some (.cells #[.slice A list.length c] 72 (0, 0))) (r0 : Kd.C k79 W A list.length list) (hs : list.length < 1000) (h : impl_RowsSet.p list n = some q) :
  Calls Try.prog 47 #[.int .i64 n, .pointer (some ⟨B, 0, none⟩)] W fun e W' => e = .returned (.bool q) ∧ Below W.heap.size W W' := by
 have hmf : ∀ (fn : Fn) (first cap : Array Value) (w : World), (Instr.makeFunc fn first cap).run Try.prog w = .ok (.func fn first cap) w := fun _ _ _ _ => rfl
 have H := Aside0.mk h; have HR := Aside0.mk r0
 have BN := Aside0.mk (blk_new W (.cells #[.int .i64 n] 3 (0, 0)))
 have HB0 := Aside0.mk (below_alloc (Below.refl W.heap.size W) (.cells #[.int .i64 n] 3 (0, 0)))
 have c0 := blk_cell (blk_alloc h1 (.cells #[.int .i64 n] 3 (0, 0))) 0
 clear h h1 r0
 go_enter Try.func47, Try.ntmps47
 go_wp2_with (go_at_call 48; refine (RowAny.calls A c list (fun x => impl_row_has.f x.f0 x.f1 n) 49 #[.pointer (some ⟨W.heap.size, 0, none⟩)] q _ (Kd.C_below HR.out HB0.out) (by omega) (fun args_ w_ => enters_ Try.func49 (by kernel_rfl) rfl args_ w_) (fun x_ b_ W_ hW_ hb_ => impl_RowsSet.lit1 W.heap.size n x_ b_ W_ (blk_below BN.out hW_) hb_) H.out).mono ?_; rintro e w2 ⟨rfl, hd⟩; have HB := Aside0.mk (below_step HB0.out hd); clear hd)
 go_ret
 exact ⟨rfl, HB.out⟩
set_option maxHeartbeats 4000000 in
set_option maxRecDepth 100000 in
theorem impl_RowsSet.calls (k : Nat) (A0 : Option Addr) (c0 : Nat) (l0 : List (List Int)) (r1 : ByteArray) (r2 : Bool) (w : World) (hr0 : Kd.C (Kd.slice 3 (Kd.int .i64)) w A0 l0.length l0) (hc0 : l0.length ≤ c0) (h : impl_RowsSet.f k l0 = some (r1, r2)) :
  Calls Try.prog 15 #[.slice A0 l0.length c0] w fun e w' => e = .returned (.tuple #[.string r1, .bool r2]) ∧ Below w.heap.size w w' := by
 have hmf : ∀ (fn : Fn) (first cap : Array Value) (w : World), (Instr.makeFunc fn first cap).run Try.prog w = .ok (.func fn first cap) w := fun _ _ _ _ => rfl
 unfold impl_RowsSet.f at h
 obtain ⟨⟨list, ok⟩, h0, h⟩ := Option.bind_eq_some_iff.mp h
 obtain ⟨ms, h1, h⟩ := Option.bind_eq_some_iff.mp h
 obtain ⟨size, h2, h⟩ := Option.bind_eq_some_iff.mp h
 simp only at h h1
 have C := impl_rowsOf.calls k A0 c0 l0 list ok w hr0 hc0 h0
 have H1 := Aside0.mk h1; have H2 := Aside0.mk h2
 clear h0 h1 h2 hr0 hc0
 cases ok with
 | false =>
  simp only [Bool.false_eq_true, if_false, Option.some.injEq, Prod.mk.injEq] at h
  obtain ⟨rfl, rfl⟩ := h
  go_enter Try.func15, Try.ntmps15
  go_wp2_with (first | (go_at_call 44; refine C.mono ?_; rintro e w1 ⟨v0, rfl, ho, hb⟩; obtain ⟨A, c, rfl, hcl, hk⟩ := Kd.R_reads ho; have BL2 := Aside0.mk (blk_new w1 (.cells #[.slice A list.length c] 72 (0, 0))); have HB2 := Aside0.mk (below_alloc hb (.cells #[.slice A list.length c] 72 (0, 0))); have HK2 := Aside0.mk (Kd.C_alloc hk (.cells #[.slice A list.length c] 72 (0, 0))); have a2 := blk_cell BL2.out 0; clear ho hb hk) | (go_at_call 46; refine (impl_moving.calls A c list ms _ HK2.out H1.out).mono ?_; rintro e w3 ⟨A3, c3, rfl, hk3, hl3, hd⟩; have BL3 := Aside0.mk (blk_below BL2.out hd); have HB3 := Aside0.mk (below_step HB2.out hd); have HK3 := Aside0.mk (Kd.C_below HK2.out hd); have HM3 := Aside0.mk hk3; have HL3 := Aside0.mk hl3; clear hd hk3 hl3 a2) | (go_at_call 45; refine (impl_again.calls k A3 c3 ms _ _ HM3.out HL3.out H2.out).mono ?_; rintro e w4 ⟨rfl, hd⟩; have BL4 := Aside0.mk (blk_below BL3.out hd); have HB4 := Aside0.mk (below_step HB3.out hd); have HK4 := Aside0.mk (Kd.C_below HK3.out hd); clear hd; have a4 := blk_cell BL4.out 0))
  go_ret2
  exact ⟨rfl, HB4.out⟩
 | true =>
  simp only [if_true] at h
  by_cases hz : size = 0
  ·rw [if_pos hz] at h
   simp only [Option.some.injEq, Prod.mk.injEq] at h
   obtain ⟨rfl, rfl⟩ := h
   subst hz
   go_enter Try.func15, Try.ntmps15
   go_wp2_with (first | (go_at_call 44; refine C.mono ?_; rintro e w1 ⟨v0, rfl, ho, hb⟩; obtain ⟨A, c, rfl, hcl, hk⟩ := Kd.R_reads ho; have BL2 := Aside0.mk (blk_new w1 (.cells #[.slice A list.length c] 72 (0, 0))); have HB2 := Aside0.mk (below_alloc hb (.cells #[.slice A list.length c] 72 (0, 0))); have HK2 := Aside0.mk (Kd.C_alloc hk (.cells #[.slice A list.length c] 72 (0, 0))); have a2 := blk_cell BL2.out 0; clear ho hb hk) | (go_at_call 46; refine (impl_moving.calls A c list ms _ HK2.out H1.out).mono ?_; rintro e w3 ⟨A3, c3, rfl, hk3, hl3, hd⟩; have BL3 := Aside0.mk (blk_below BL2.out hd); have HB3 := Aside0.mk (below_step HB2.out hd); have HK3 := Aside0.mk (Kd.C_below HK2.out hd); have HM3 := Aside0.mk hk3; have HL3 := Aside0.mk hl3; clear hd hk3 hl3 a2) | (go_at_call 45; refine (impl_again.calls k A3 c3 ms _ _ HM3.out HL3.out H2.out).mono ?_; rintro e w4 ⟨rfl, hd⟩; have BL4 := Aside0.mk (blk_below BL3.out hd); have HB4 := Aside0.mk (below_step HB3.out hd); have HK4 := Aside0.mk (Kd.C_below HK3.out hd); clear hd; have a4 := blk_cell BL4.out 0))
   go_ret2
   exact ⟨rfl, HB4.out⟩
  ·rw [if_neg hz] at h
   split at h
   case isFalse => cases h
   rename_i hs
   have H := Aside0.mk h
   have hzb : (size == 0) = false := beq_eq_false_iff_ne.mpr hz
   clear h hz
   go_enter Try.func15, Try.ntmps15
   go_wp2_with (first | (go_at_call 44; refine C.mono ?_; rintro e w1 ⟨v0, rfl, ho, hb⟩; obtain ⟨A, c, rfl, hcl, hk⟩ := Kd.R_reads ho; have BL2 := Aside0.mk (blk_new w1 (.cells #[.slice A list.length c] 72 (0, 0))); have HB2 := Aside0.mk (below_alloc hb (.cells #[.slice A list.length c] 72 (0, 0))); have HK2 := Aside0.mk (Kd.C_alloc hk (.cells #[.slice A list.length c] 72 (0, 0))); have a2 := blk_cell BL2.out 0; clear ho hb hk) | (go_at_call 46; refine (impl_moving.calls A c list ms _ HK2.out H1.out).mono ?_; rintro e w3 ⟨A3, c3, rfl, hk3, hl3, hd⟩; have BL3 := Aside0.mk (blk_below BL2.out hd); have HB3 := Aside0.mk (below_step HB2.out hd); have HK3 := Aside0.mk (Kd.C_below HK2.out hd); have HM3 := Aside0.mk hk3; have HL3 := Aside0.mk hl3; clear hd hk3 hl3 a2) | (go_at_call 45; refine (impl_again.calls k A3 c3 ms _ _ HM3.out HL3.out H2.out).mono ?_; rintro e w4 ⟨rfl, hd⟩; have BL4 := Aside0.mk (blk_below BL3.out hd); have HB4 := Aside0.mk (below_step HB3.out hd); have HK4 := Aside0.mk (Kd.C_below HK3.out hd); clear hd; have a4 := blk_cell BL4.out 0) | (go_at_call 36; refine (impl_made.calls k 60 size (impl_RowsSet.p list) 47 #[.pointer (some ⟨w1.heap.size, 0, none⟩)] r1 r2 _ (fun args_ w_ => enters_ Try.func47 (by kernel_rfl) rfl args_ w_) ?hpx H.out).mono ?_; (case hpx => intro n_ b_ W_ hW_ hb_; exact impl_RowsSet.lit w1.heap.size A c list n_ b_ W_ (blk_below BL4.out hW_) (Kd.C_below HK4.out hW_) hs hb_); rintro e w5 ⟨rfl, hd⟩; have HB5 := Aside0.mk (below_step HB4.out hd); clear hd))
   go_ret2
   exact ⟨rfl, HB5.out⟩

mutual
def laws_FnRowsSet.j0 : Nat → List (List Int) → ByteArray → Bool → Bool → Option (Bool)
 | 0, _, _, _, _ => none
 | k + 1, x3, x4, x5, x8 => if x8 = true then (laws_FnRowsSet.j1 k x3 x4 x8 (!x5)) else (laws_FnRowsSet.j1 k x3 x4 x8 true)
def laws_FnRowsSet.j1 : Nat → List (List Int) → ByteArray → Bool → Bool → Option (Bool)
 | 0, _, _, _, _ => none
 | k + 1, x3, x4, x8, x40 => if x40 = true then (some x8) else (laws_FnRowsSet.l0 k x3 x4 0)
def laws_FnRowsSet.l0 : Nat → List (List Int) → ByteArray → Int → Option (Bool)
 | 0, _, _, _ => none
 | k + 1, x3, x4, x9 => if x9 ≤ 200 then ((impl_RowsHas.f k x3 x9).bind fun bt589 => (if bt589.2 = true then ((impl_SetHas.f x4 x9).bind fun t591 => (if (t591 != (decide (bt589.1 > 0))) = true then (some false) else (laws_FnRowsSet.l0 k x3 x4 (wrap64 (x9 + 1))))) else (some false))) else (some true)
end
def laws_FnRowsSet.f (k : Nat) (l0 : List Int) : Option (Bool) := if (l0.length : Int) > 1048576 then (some true) else ((spec_DrawRowsSet.f k l0).bind fun t582 => ((impl_RowsSet.f k t582).bind fun bt585 => ((spec_RowsSet.f k t582).bind fun bt587 => (if bt585.1.toList = bt587.1.toList then (laws_FnRowsSet.j0 k t582 bt585.1 bt585.2 (bt585.2 == bt587.2)) else (laws_FnRowsSet.j0 k t582 bt585.1 bt585.2 false)))))
theorem laws_FnRowsSet.mono_l : ∀ k, (∀ y0 y1 y2 y3, LeO (laws_FnRowsSet.j0 k y0 y1 y2 y3) (laws_FnRowsSet.j0 (k + 1) y0 y1 y2 y3)) ∧ (∀ y0 y1 y2 y3, LeO (laws_FnRowsSet.j1 k y0 y1 y2 y3) (laws_FnRowsSet.j1 (k + 1) y0 y1 y2 y3)) ∧ (∀ y0 y1 y2, LeO (laws_FnRowsSet.l0 k y0 y1 y2) (laws_FnRowsSet.l0 (k + 1) y0 y1 y2))
 | 0 => ⟨fun _ _ _ _ r h => by simp [laws_FnRowsSet.j0] at h, fun _ _ _ _ r h => by simp [laws_FnRowsSet.j1] at h, fun _ _ _ r h => by simp [laws_FnRowsSet.l0] at h⟩
 | k + 1 => by
  obtain ⟨ih0, ih1, ih2⟩ := laws_FnRowsSet.mono_l k
  refine ⟨?_, ?_, ?_⟩
  ·intro y0 y1 y2 y3
   unfold laws_FnRowsSet.j0
   repeat' first
   |(with_reducible exact ih0 _ _ _ _)
   |(with_reducible exact ih1 _ _ _ _)
   |(with_reducible exact ih2 _ _ _)
   |(with_reducible exact impl_RowsHas.mono _ _ _)
   |(with_reducible exact impl_RowsSet.mono _ _)
   |(with_reducible exact spec_DrawRowsSet.mono _ _)
   |(with_reducible exact spec_RowsSet.mono _ _)
   |(with_reducible exact LeO.refl _)
   |(with_reducible exact LeO.none _)
   |(with_reducible refine LeO.ite ?_ ?_)
   |(with_reducible refine LeO.bind ?_ (fun _ => ?_))
   |exact ih0 _ _ _ _
   |exact ih1 _ _ _ _
   |exact ih2 _ _ _
   |exact impl_RowsHas.mono _ _ _
   |exact impl_RowsSet.mono _ _
   |exact spec_DrawRowsSet.mono _ _
   |exact spec_RowsSet.mono _ _
   |exact LeO.none _
   |refine LeO.ite ?_ ?_
   |refine LeO.bind ?_ (fun _ => ?_)
  ·intro y0 y1 y2 y3
   unfold laws_FnRowsSet.j1
   repeat' first
   |(with_reducible exact ih0 _ _ _ _)
   |(with_reducible exact ih1 _ _ _ _)
   |(with_reducible exact ih2 _ _ _)
   |(with_reducible exact impl_RowsHas.mono _ _ _)
   |(with_reducible exact impl_RowsSet.mono _ _)
   |(with_reducible exact spec_DrawRowsSet.mono _ _)
   |(with_reducible exact spec_RowsSet.mono _ _)
   |(with_reducible exact LeO.refl _)
   |(with_reducible exact LeO.none _)
   |(with_reducible refine LeO.ite ?_ ?_)
   |(with_reducible refine LeO.bind ?_ (fun _ => ?_))
   |exact ih0 _ _ _ _
   |exact ih1 _ _ _ _
   |exact ih2 _ _ _
   |exact impl_RowsHas.mono _ _ _
   |exact impl_RowsSet.mono _ _
   |exact spec_DrawRowsSet.mono _ _
   |exact spec_RowsSet.mono _ _
   |exact LeO.none _
   |refine LeO.ite ?_ ?_
   |refine LeO.bind ?_ (fun _ => ?_)
  ·intro y0 y1 y2
   unfold laws_FnRowsSet.l0
   repeat' first
   |(with_reducible exact ih0 _ _ _ _)
   |(with_reducible exact ih1 _ _ _ _)
   |(with_reducible exact ih2 _ _ _)
   |(with_reducible exact impl_RowsHas.mono _ _ _)
   |(with_reducible exact impl_RowsSet.mono _ _)
   |(with_reducible exact spec_DrawRowsSet.mono _ _)
   |(with_reducible exact spec_RowsSet.mono _ _)
   |(with_reducible exact LeO.refl _)
   |(with_reducible exact LeO.none _)
   |(with_reducible refine LeO.ite ?_ ?_)
   |(with_reducible refine LeO.bind ?_ (fun _ => ?_))
   |exact ih0 _ _ _ _
   |exact ih1 _ _ _ _
   |exact ih2 _ _ _
   |exact impl_RowsHas.mono _ _ _
   |exact impl_RowsSet.mono _ _
   |exact spec_DrawRowsSet.mono _ _
   |exact spec_RowsSet.mono _ _
   |exact LeO.none _
   |refine LeO.ite ?_ ?_
   |refine LeO.bind ?_ (fun _ => ?_)
theorem laws_FnRowsSet.mono : ∀ a0 k, LeO (laws_FnRowsSet.f k a0) (laws_FnRowsSet.f (k + 1) a0) := by
 intro a0 k
 obtain ⟨ih0, ih1, ih2⟩ := laws_FnRowsSet.mono_l k
 unfold laws_FnRowsSet.f
 repeat' first
   |(with_reducible exact ih0 _ _ _ _)
   |(with_reducible exact ih1 _ _ _ _)
   |(with_reducible exact ih2 _ _ _)
   |(with_reducible exact impl_RowsHas.mono _ _ _)
   |(with_reducible exact impl_RowsSet.mono _ _)
   |(with_reducible exact spec_DrawRowsSet.mono _ _)
   |(with_reducible exact spec_RowsSet.mono _ _)
   |(with_reducible exact LeO.refl _)
   |(with_reducible exact LeO.none _)
   |(with_reducible refine LeO.ite ?_ ?_)
   |(with_reducible refine LeO.bind ?_ (fun _ => ?_))
   |exact ih0 _ _ _ _
   |exact ih1 _ _ _ _
   |exact ih2 _ _ _
   |exact impl_RowsHas.mono _ _ _
   |exact impl_RowsSet.mono _ _
   |exact spec_DrawRowsSet.mono _ _
   |exact spec_RowsSet.mono _ _
   |exact LeO.none _
   |refine LeO.ite ?_ ?_
   |refine LeO.bind ?_ (fun _ => ?_)
set_option maxHeartbeats 8000000 in
set_option maxRecDepth 100000 in
theorem laws_FnRowsSet.calls (k : Nat) (A0 : Option Addr) (c0 : Nat) (l0 : List Int) (r : Bool) (w : World) (hr0 : Kd.C (Kd.int .u8) w A0 l0.length l0) (hc0 : l0.length ≤ c0) (h : laws_FnRowsSet.f k l0 = some r) :
  Calls Try.prog 4 #[.slice A0 l0.length c0] w fun e w' => e = .returned (.bool r) ∧ Below w.heap.size w w' := by
 have HR0 := Aside0.mk hr0
 have HC0 := Aside0.mk hc0
 clear hr0 hc0
 have HB := Aside0.mk (Below.refl w.heap.size w)
 have H : (if (l0.length : Int) > 1048576 then (some true) else ((spec_DrawRowsSet.f k l0).bind fun t582 => ((impl_RowsSet.f k t582).bind fun bt585 => ((spec_RowsSet.f k t582).bind fun bt587 => (if bt585.1.toList = bt587.1.toList then (laws_FnRowsSet.j0 k t582 bt585.1 bt585.2 (bt585.2 == bt587.2)) else (laws_FnRowsSet.j0 k t582 bt585.1 bt585.2 false)))))) = some r := h
 clear h
 by_cases c2 : (l0.length : Int) > 1048576
 ·rw [if_pos c2] at H
  have c2b0 : decide (1048576 < (l0.length : Int)) = true := decide_eq_true c2
  have c2b1 : decide (1048576 < l0.length) = true := decide_eq_true (by omega)
  clear c2
  obtain rfl := Option.some.inj H
  go_enter Try.func4, Try.ntmps4
  go_wp2
  go_ret
  exact ⟨by first | rfl | (simp [errW_none, errW_some] <;> rfl) | (simp [errW_none, errW_some]; exact ⟨rfl, rfl⟩) | (simp [errW_none, errW_some]; exact ⟨rfl, rfl, rfl⟩) | (simp [*, errW_none, errW_some] <;> rfl), by repeat (first | (with_reducible first | exact HB.out | apply below_alloc | apply pw_below_drewN | apply below_drew1) | exact HB.out)⟩
 ·rw [if_neg c2] at H
  have c2b0 : decide (1048576 < (l0.length : Int)) = false := decide_eq_false c2
  have c2b1 : decide (1048576 < l0.length) = false := decide_eq_false (by omega)
  clear c2
  replace H := Option.bind_eq_some_iff.mp H
  obtain ⟨t582, A30, H⟩ := H
  replace H : ((impl_RowsSet.f k t582).bind fun bt585 => ((spec_RowsSet.f k t582).bind fun bt587 => (if bt585.1.toList = bt587.1.toList then (laws_FnRowsSet.j0 k t582 bt585.1 bt585.2 (bt585.2 == bt587.2)) else (laws_FnRowsSet.j0 k t582 bt585.1 bt585.2 false)))) = some r := H
  have A3 := Aside0.mk A30
  clear A30
  replace H := Option.bind_eq_some_iff.mp H
  obtain ⟨⟨t585, t586⟩, A40, H⟩ := H
  replace H : ((spec_RowsSet.f k t582).bind fun bt587 => (if t585.toList = bt587.1.toList then (laws_FnRowsSet.j0 k t582 t585 t586 (t586 == bt587.2)) else (laws_FnRowsSet.j0 k t582 t585 t586 false))) = some r := H
  have A4 := Aside0.mk A40
  clear A40
  replace H := Option.bind_eq_some_iff.mp H
  obtain ⟨⟨t587, t588⟩, A50, H⟩ := H
  replace H : (if t585.toList = t587.toList then (laws_FnRowsSet.j0 k t582 t585 t586 (t586 == t588)) else (laws_FnRowsSet.j0 k t582 t585 t586 false)) = some r := H
  have A5 := Aside0.mk A50
  clear A50
  have HC6 := Aside0.mk H
  clear H
  go_enter Try.func4, Try.ntmps4
  go_upto_region 6 with (first | ((with_reducible refine gate_callee (f := 14) rfl ?_); refine goesL_ (some 16) rfl rfl Try.func14 (by kernel_rfl) rfl #[.slice A0 l0.length c0] rfl (by (try simp only [List.map_toArray, List.map_cons, List.map_nil]); first | done | rfl | (simp only [List.length_drop, List.length_take]; rfl)) ?_; (with_reducible refine (spec_DrawRowsSet.calls k _ _ l0 t582 _ ?side1 ?side2 A3.out).mono ?_); (case side1 => repeat (first | exact HR0.out | (with_reducible refine Kd.C_alloc ?_ _) | (with_reducible refine Kd.C_drewN ?_ _) | (with_reducible refine Kd.C_drew ?_))); (case side2 => exact HC0.out); rintro e w7 ⟨v583, rfl, ho0, hb⟩; refine ⟨_, rfl, ?_⟩; have n0_ := Aside0.mk (Kd.N_lower (Kd.N_mono (ok' := fun k_ => True) ho0 (fun k_ hk_ => trivial)) (below_size (by repeat (first | (with_reducible first | exact HB.out | apply below_alloc | apply pw_below_drewN | apply below_drew1) | exact HB.out)))); have n1_ := Aside0.mk (below_step (by repeat (first | (with_reducible first | exact HB.out | apply below_alloc | apply pw_below_drewN | apply below_drew1) | exact HB.out)) hb); clear HB; have HO584 := n0_; have HB := n1_; clear n0_ n1_; (try clear hb); (try clear hb2); (try clear hk); (try clear hi); (try clear ho0); obtain ⟨Ao8, co8, eo8⟩ := Kd.N_slice HO584.out; subst eo8) | ((with_reducible refine gate_callee (f := 15) rfl ?_); refine goesL_ (some 19) rfl rfl Try.func15 (by kernel_rfl) rfl #[.slice Ao8 t582.length co8] rfl (by (try simp only [List.map_toArray, List.map_cons, List.map_nil]); first | done | rfl | (simp only [List.length_drop, List.length_take]; rfl)) ?_; (with_reducible refine (impl_RowsSet.calls k _ _ t582 t585 t586 _ ?side1 ?side2 A4.out).mono ?_); (case side1 => repeat (first | exact (Kd.N_reads' HO584.out).2.2 | (with_reducible refine Kd.C_alloc ?_ _) | (with_reducible refine Kd.C_drewN ?_ _) | (with_reducible refine Kd.C_drew ?_))); (case side2 => exact (Kd.N_reads' HO584.out).2.1); rintro e w9 ⟨rfl, hb⟩; refine ⟨_, rfl, ?_⟩; have n0_ := Aside0.mk (Kd.N_below (by (with_reducible repeat (first | apply Kd.N_alloc | apply Kd.N_drewN | apply Kd.N_drew)); exact HO584.out) hb); have n1_ := Aside0.mk (below_step (by repeat (first | (with_reducible first | exact HB.out | apply below_alloc | apply pw_below_drewN | apply below_drew1) | exact HB.out)) hb); clear HO584; clear HB; have HO584 := n0_; have HB := n1_; clear n0_ n1_; (try clear hb); (try clear hb2); (try clear hk); (try clear hi)) | ((with_reducible refine gate_callee (f := 16) rfl ?_); refine goesL_ (some 24) rfl rfl Try.func16 (by kernel_rfl) rfl #[.slice Ao8 t582.length co8] rfl (by (try simp only [List.map_toArray, List.map_cons, List.map_nil]); first | done | rfl | (simp only [List.length_drop, List.length_take]; rfl)) ?_; (with_reducible refine (spec_RowsSet.calls k _ _ t582 t587 t588 _ ?side1 ?side2 A5.out).mono ?_); (case side1 => repeat (first | exact (Kd.N_reads' HO584.out).2.2 | (with_reducible refine Kd.C_alloc ?_ _) | (with_reducible refine Kd.C_drewN ?_ _) | (with_reducible refine Kd.C_drew ?_))); (case side2 => exact (Kd.N_reads' HO584.out).2.1); rintro e w10 ⟨rfl, hb⟩; refine ⟨_, rfl, ?_⟩; have n0_ := Aside0.mk (Kd.N_below (by (with_reducible repeat (first | apply Kd.N_alloc | apply Kd.N_drewN | apply Kd.N_drew)); exact HO584.out) hb); have n1_ := Aside0.mk (below_step (by repeat (first | (with_reducible first | exact HB.out | apply below_alloc | apply pw_below_drewN | apply below_drew1) | exact HB.out)) hb); clear HO584; clear HB; have HO584 := n0_; have HB := n1_; clear n0_ n1_; (try clear hb); (try clear hb2); (try clear hk); (try clear hi)))
  (try simp only [Act.put, List.setIfInBounds_toArray, List.set_cons_zero, List.set_cons_succ])
  go_cut [8] (fun v8 wc => ∃ (kq : Nat) (x8_5 : Bool), v8 = .bool x8_5 ∧ Aside0 (laws_FnRowsSet.j0 kq t582 t585 t586 x8_5 = some r) ∧ Aside0 (kq ≤ k) ∧ Aside0 (Kd.N (Kd.slice 3 (Kd.int .i64)) 24 wc w.heap.size (fun _ => True) (.slice Ao8 t582.length co8) t582) ∧ Aside0 (Below w.heap.size w wc))
  case first =>
   have H := HC6.out
   clear HC6
   by_cases c11 : t585.toList = t587.toList
   ·rw [if_pos c11] at H
    have c11b0 : (t585.toList == t587.toList) = true := beq_iff_eq.mpr c11
    have c11b1 : (t585.toList != t587.toList) = false := bne_eq_false_iff_eq.mpr c11
    clear c11
    (first | rw [c11b0] | (simp only [i64_w, i32_w]; rw [c11b0]) | skip)
    have H' := Aside0.mk H
    clear H
    go_wp2
    go_meet
    case rel => exact ⟨_, ((t586 == t588)), (by first | rfl | (simp; done) | (simp [*]; done) | (simp [Int.tmod_eq_emod_of_nonneg]; done)), H', ⟨by first | omega | exact Nat.le_refl _⟩, ⟨by (with_reducible repeat (first | apply Kd.N_alloc | apply Kd.N_drewN | apply Kd.N_drew)); exact HO584.out⟩, ⟨by repeat (first | (with_reducible first | exact HB.out | apply below_alloc | apply pw_below_drewN | apply below_drew1) | exact HB.out)⟩⟩
   ·rw [if_neg c11] at H
    have c11b0 : (t585.toList == t587.toList) = false := beq_eq_false_iff_ne.mpr c11
    have c11b1 : (t585.toList != t587.toList) = true := bne_iff_ne.mpr c11
    (first | rw [c11b0] | (simp only [i64_w, i32_w]; rw [c11b0]) | skip)
    have H' := Aside0.mk H
    clear H
    go_wp2
    go_meet
    case rel => exact ⟨_, (false), (by first | rfl | (simp; done) | (simp [*]; done) | (simp [Int.tmod_eq_emod_of_nonneg]; done)), H', ⟨by first | omega | exact Nat.le_refl _⟩, ⟨by (with_reducible repeat (first | apply Kd.N_alloc | apply Kd.N_drewN | apply Kd.N_drew)); exact HO584.out⟩, ⟨by repeat (first | (with_reducible first | exact HB.out | apply below_alloc | apply pw_below_drewN | apply below_drew1) | exact HB.out)⟩⟩
  case rest =>
   clear HC6
   try clear c1
   try clear c2
   try clear c2b0
   try clear c2b1
   try clear p2
   try clear c4
   try clear c11
   try clear c11b0
   try clear c11b1
   obtain ⟨kq, x8_5, rfl, HA, HJ5, HO_3, HB⟩ := hcut
   cases kq with
   | zero => exact absurd HA.out (by simp [laws_FnRowsSet.j0])
   | succ kj5 =>
    have H := HA.out
    clear HA
    simp only [laws_FnRowsSet.j0] at H
    have HC12 := Aside0.mk H
    clear H
    go_upto_region 7 with (fail)
    go_cut [40] (fun v40 wc => ∃ (kq : Nat) (x40_11 : Bool), v40 = .bool x40_11 ∧ Aside0 (laws_FnRowsSet.j1 kq t582 t585 x8_5 x40_11 = some r) ∧ Aside0 (kq ≤ kj5) ∧ Aside0 (Kd.N (Kd.slice 3 (Kd.int .i64)) 24 wc w.heap.size (fun _ => True) (.slice Ao8 t582.length co8) t582) ∧ Aside0 (Below w.heap.size w wc))
    case first =>
     have H := HC12.out
     clear HC12
     by_cases c13 : x8_5 = true
     ·subst c13
      have H1 : (laws_FnRowsSet.j1 kj5 t582 t585 true (!t586)) = some r := by rw [if_pos rfl] at H; exact H
      clear H
      have H := H1
      clear H1
      have H' := Aside0.mk H
      clear H
      go_wp2
      go_meet
      case rel => exact ⟨_, (!t586), (by first | rfl | (simp; done) | (simp [*]; done) | (simp [Int.tmod_eq_emod_of_nonneg]; done)), H', ⟨by have := HJ5.out; first | omega | exact Nat.le_refl _⟩, ⟨by (with_reducible repeat (first | apply Kd.N_alloc | apply Kd.N_drewN | apply Kd.N_drew)); exact HO_3.out⟩, ⟨by repeat (first | (with_reducible first | exact HB.out | apply below_alloc | apply pw_below_drewN | apply below_drew1) | exact HB.out)⟩⟩
     ·replace c13 := Bool.eq_false_iff.mpr c13
      subst c13
      have H1 : (laws_FnRowsSet.j1 kj5 t582 t585 false true) = some r := by rw [if_neg (show ¬ (false = true) by decide)] at H; exact H
      clear H
      have H := H1
      clear H1
      have H' := Aside0.mk H
      clear H
      go_wp2
      go_meet
      case rel => exact ⟨_, (true), (by first | rfl | (simp; done) | (simp [*]; done) | (simp [Int.tmod_eq_emod_of_nonneg]; done)), H', ⟨by have := HJ5.out; first | omega | exact Nat.le_refl _⟩, ⟨by (with_reducible repeat (first | apply Kd.N_alloc | apply Kd.N_drewN | apply Kd.N_drew)); exact HO_3.out⟩, ⟨by repeat (first | (with_reducible first | exact HB.out | apply below_alloc | apply pw_below_drewN | apply below_drew1) | exact HB.out)⟩⟩
    case rest =>
     clear HC12
     try clear c1
     try clear c2
     try clear c2b0
     try clear c2b1
     try clear p2
     try clear c4
     try clear c11
     try clear c11b0
     try clear c11b1
     try clear c13
     try clear p2
     obtain ⟨kq, x40_11, rfl, HA, HJ11, HO_3, HB⟩ := hcut
     cases kq with
     | zero => exact absurd HA.out (by simp [laws_FnRowsSet.j1])
     | succ kj11 =>
      have H := HA.out
      clear HA
      simp only [laws_FnRowsSet.j1] at H
      by_cases c14 : x40_11 = true
      ·subst c14
       have H1 : (some x8_5) = some r := by rw [if_pos rfl] at H; exact H
       clear H
       have H := H1
       clear H1
       obtain rfl := Option.some.inj H
       go_wp2
       go_ret
       exact ⟨by first | rfl | (simp [errW_none, errW_some] <;> rfl) | (simp [errW_none, errW_some]; exact ⟨rfl, rfl⟩) | (simp [errW_none, errW_some]; exact ⟨rfl, rfl, rfl⟩) | (simp [*, errW_none, errW_some] <;> rfl), by repeat (first | (with_reducible first | exact HB.out | apply below_alloc | apply pw_below_drewN | apply below_drew1) | exact HB.out)⟩
      ·replace c14 := Bool.eq_false_iff.mpr c14
       subst c14
       have H1 : (laws_FnRowsSet.l0 kj11 t582 t585 0) = some r := by rw [if_neg (show ¬ (false = true) by decide)] at H; exact H
       clear H
       have H := H1
       clear H1
       have H' := Aside0.mk H
       clear H
       go_wp2
       go_loopg [9] kj11 (fun kq v9 w' => ∃ (x9_3 : Int), v9 = .int .i64 x9_3 ∧ Aside0 (laws_FnRowsSet.l0 kq t582 t585 x9_3 = some r) ∧ Aside0 (kq ≤ kj11) ∧ Aside0 (Kd.N (Kd.slice 3 (Kd.int .i64)) 24 w' w.heap.size (fun _ => True) (.slice Ao8 t582.length co8) t582) ∧ Aside0 (Below w.heap.size w w'))
       case atStart => exact ⟨(0), (by first | rfl | (simp; done) | (simp [*]; done) | (simp [Int.tmod_eq_emod_of_nonneg]; done)), H', ⟨Nat.le_refl _⟩, ⟨by (with_reducible repeat (first | apply Kd.N_alloc | apply Kd.N_drewN | apply Kd.N_drew)); exact HO_3.out⟩, ⟨by repeat (first | (with_reducible first | exact HB.out | apply below_alloc | apply pw_below_drewN | apply below_drew1) | exact HB.out)⟩⟩
       case round =>
        clear H'
        try clear c1
        try clear c2
        try clear c2b0
        try clear c2b1
        try clear p2
        try clear c4
        try clear c11
        try clear c11b0
        try clear c11b1
        try clear c13
        try clear c14
        try clear p2
        obtain ⟨x9_3, rfl, HA, HK3, HO_3, HB⟩ := hrel
        cases gk with
        | zero => exact absurd HA.out (by simp [laws_FnRowsSet.l0])
        | succ k3 =>
         have H := HA.out
         clear HA
         simp only [laws_FnRowsSet.l0] at H
         by_cases c15 : x9_3 ≤ 200
         ·rw [if_pos c15] at H
          have c15b0 : decide (x9_3 ≤ 200) = true := decide_eq_true c15
          clear c15
          replace H := Option.bind_eq_some_iff.mp H
          obtain ⟨⟨t589, t590⟩, A160, H⟩ := H
          replace H : (if t590 = true then ((impl_SetHas.f t585 x9_3).bind fun t591 => (if (t591 != (decide (t589 > 0))) = true then (some false) else (laws_FnRowsSet.l0 k3 t582 t585 (wrap64 (x9_3 + 1))))) else (some false)) = some r := H
          have A16 := Aside0.mk A160
          clear A160
          by_cases c17 : t590 = true
          ·subst c17
           have H1 : ((impl_SetHas.f t585 x9_3).bind fun t591 => (if (t591 != (decide (t589 > 0))) = true then (some false) else (laws_FnRowsSet.l0 k3 t582 t585 (wrap64 (x9_3 + 1))))) = some r := by rw [if_pos rfl] at H; exact H
           clear H
           have H := H1
           clear H1
           replace H := Option.bind_eq_some_iff.mp H
           obtain ⟨t591, A180, H⟩ := H
           replace H : (if (t591 != (decide (t589 > 0))) = true then (some false) else (laws_FnRowsSet.l0 k3 t582 t585 (wrap64 (x9_3 + 1)))) = some r := H
           have A18 := Aside0.mk A180
           clear A180
           by_cases c19 : (t591 != (decide (t589 > 0))) = true
           ·rw [if_pos c19] at H
            have c19b0 : (t591 != (decide (t589 > 0))) = true := c19
            (try (have c19b1 : decide (t591 = (decide (t589 > 0))) = false := by simpa using c19))
            (try (have c19b2 : (t591 == (decide (t589 > 0))) = false := by simpa using c19))
            (try (have c19b3 : ¬ (t591 = (decide (t589 > 0))) := by simpa using c19))
            clear c19
            obtain rfl := Option.some.inj H
            go_wp2_with (first | ((with_reducible refine gate_callee (f := 17) rfl ?_); refine goesL_ (some 49) rfl rfl Try.func17 (by kernel_rfl) rfl #[.slice Ao8 t582.length co8, .int .i64 x9_3] rfl (by (try simp only [List.map_toArray, List.map_cons, List.map_nil]); first | done | rfl | (simp only [List.length_drop, List.length_take]; rfl)) ?_; (with_reducible refine (impl_RowsHas.calls k3 _ _ t582 x9_3 t589 true _ ?side1 ?side2 A16.out).mono ?_); (case side1 => repeat (first | exact (Kd.N_reads' HO_3.out).2.2 | (with_reducible refine Kd.C_alloc ?_ _) | (with_reducible refine Kd.C_drewN ?_ _) | (with_reducible refine Kd.C_drew ?_))); (case side2 => exact (Kd.N_reads' HO_3.out).2.1); rintro e w20 ⟨rfl, hb⟩; refine ⟨_, rfl, ?_⟩; have n0_ := Aside0.mk (Kd.N_below (by (with_reducible repeat (first | apply Kd.N_alloc | apply Kd.N_drewN | apply Kd.N_drew)); exact HO_3.out) hb); have n1_ := Aside0.mk (below_step (by repeat (first | (with_reducible first | exact HB.out | apply below_alloc | apply pw_below_drewN | apply below_drew1) | exact HB.out)) hb); clear HO_3; clear HB; have HO_3 := n0_; have HB := n1_; clear n0_ n1_; (try clear hb); (try clear hb2); (try clear hk); (try clear hi)) | (go_at_call 18; (with_reducible refine (impl_SetHas.calls t585 x9_3 t591 _ A18.out).mono ?_); rintro e w21 ⟨rfl, hb⟩; have n0_ := Aside0.mk (Kd.N_below (by (with_reducible repeat (first | apply Kd.N_alloc | apply Kd.N_drewN | apply Kd.N_drew)); exact HO_3.out) hb); have n1_ := Aside0.mk (below_step (by repeat (first | (with_reducible first | exact HB.out | apply below_alloc | apply pw_below_drewN | apply below_drew1) | exact HB.out)) hb); clear HO_3; clear HB; have HO_3 := n0_; have HB := n1_; clear n0_ n1_; (try clear hb); (try clear hb2); (try clear hk); (try clear hi)))
            go_ret
            exact ⟨by first | rfl | (simp [errW_none, errW_some] <;> rfl) | (simp [errW_none, errW_some]; exact ⟨rfl, rfl⟩) | (simp [errW_none, errW_some]; exact ⟨rfl, rfl, rfl⟩) | (simp [*, errW_none, errW_some] <;> rfl), by repeat (first | (with_reducible first | exact HB.out | apply below_alloc | apply pw_below_drewN | apply below_drew1) | exact HB.out)⟩
           ·rw [if_neg c19] at H
            have c19b0 : (t591 != (decide (t589 > 0))) = false := by simpa using c19
            (try (have c19b1 : decide (t591 = (decide (t589 > 0))) = true := by simpa using c19))
            (try (have c19b2 : (t591 == (decide (t589 > 0))) = true := by simpa using c19))
            clear c19
            have H' := Aside0.mk H
            clear H
            go_wp2_with (first | ((with_reducible refine gate_callee (f := 17) rfl ?_); refine goesL_ (some 49) rfl rfl Try.func17 (by kernel_rfl) rfl #[.slice Ao8 t582.length co8, .int .i64 x9_3] rfl (by (try simp only [List.map_toArray, List.map_cons, List.map_nil]); first | done | rfl | (simp only [List.length_drop, List.length_take]; rfl)) ?_; (with_reducible refine (impl_RowsHas.calls k3 _ _ t582 x9_3 t589 true _ ?side1 ?side2 A16.out).mono ?_); (case side1 => repeat (first | exact (Kd.N_reads' HO_3.out).2.2 | (with_reducible refine Kd.C_alloc ?_ _) | (with_reducible refine Kd.C_drewN ?_ _) | (with_reducible refine Kd.C_drew ?_))); (case side2 => exact (Kd.N_reads' HO_3.out).2.1); rintro e w22 ⟨rfl, hb⟩; refine ⟨_, rfl, ?_⟩; have n0_ := Aside0.mk (Kd.N_below (by (with_reducible repeat (first | apply Kd.N_alloc | apply Kd.N_drewN | apply Kd.N_drew)); exact HO_3.out) hb); have n1_ := Aside0.mk (below_step (by repeat (first | (with_reducible first | exact HB.out | apply below_alloc | apply pw_below_drewN | apply below_drew1) | exact HB.out)) hb); clear HO_3; clear HB; have HO_3 := n0_; have HB := n1_; clear n0_ n1_; (try clear hb); (try clear hb2); (try clear hk); (try clear hi)) | (go_at_call 18; (with_reducible refine (impl_SetHas.calls t585 x9_3 t591 _ A18.out).mono ?_); rintro e w23 ⟨rfl, hb⟩; have n0_ := Aside0.mk (Kd.N_below (by (with_reducible repeat (first | apply Kd.N_alloc | apply Kd.N_drewN | apply Kd.N_drew)); exact HO_3.out) hb); have n1_ := Aside0.mk (below_step (by repeat (first | (with_reducible first | exact HB.out | apply below_alloc | apply pw_below_drewN | apply below_drew1) | exact HB.out)) hb); clear HO_3; clear HB; have HO_3 := n0_; have HB := n1_; clear n0_ n1_; (try clear hb); (try clear hb2); (try clear hk); (try clear hi)))
            go_roundg k3
            case measure => have := HJ5.out; have := HJ11.out; have := HK3.out; omega
            case rel => exact ⟨(wrap64 (x9_3 + 1)), (by first | rfl | (simp; done) | (simp [*]; done) | (simp [Int.tmod_eq_emod_of_nonneg]; done)), H', ⟨by have := HJ5.out; have := HJ11.out; have := HK3.out; omega⟩, ⟨by (with_reducible repeat (first | apply Kd.N_alloc | apply Kd.N_drewN | apply Kd.N_drew)); exact HO_3.out⟩, ⟨by repeat (first | (with_reducible first | exact HB.out | apply below_alloc | apply pw_below_drewN | apply below_drew1) | exact HB.out)⟩⟩
          ·replace c17 := Bool.eq_false_iff.mpr c17
           subst c17
           have H1 : (some false) = some r := by rw [if_neg (show ¬ (false = true) by decide)] at H; exact H
           clear H
           have H := H1
           clear H1
           obtain rfl := Option.some.inj H
           go_wp2_with (first | ((with_reducible refine gate_callee (f := 17) rfl ?_); refine goesL_ (some 49) rfl rfl Try.func17 (by kernel_rfl) rfl #[.slice Ao8 t582.length co8, .int .i64 x9_3] rfl (by (try simp only [List.map_toArray, List.map_cons, List.map_nil]); first | done | rfl | (simp only [List.length_drop, List.length_take]; rfl)) ?_; (with_reducible refine (impl_RowsHas.calls k3 _ _ t582 x9_3 t589 false _ ?side1 ?side2 A16.out).mono ?_); (case side1 => repeat (first | exact (Kd.N_reads' HO_3.out).2.2 | (with_reducible refine Kd.C_alloc ?_ _) | (with_reducible refine Kd.C_drewN ?_ _) | (with_reducible refine Kd.C_drew ?_))); (case side2 => exact (Kd.N_reads' HO_3.out).2.1); rintro e w24 ⟨rfl, hb⟩; refine ⟨_, rfl, ?_⟩; have n0_ := Aside0.mk (Kd.N_below (by (with_reducible repeat (first | apply Kd.N_alloc | apply Kd.N_drewN | apply Kd.N_drew)); exact HO_3.out) hb); have n1_ := Aside0.mk (below_step (by repeat (first | (with_reducible first | exact HB.out | apply below_alloc | apply pw_below_drewN | apply below_drew1) | exact HB.out)) hb); clear HO_3; clear HB; have HO_3 := n0_; have HB := n1_; clear n0_ n1_; (try clear hb); (try clear hb2); (try clear hk); (try clear hi)))
           go_ret
           exact ⟨by first | rfl | (simp [errW_none, errW_some] <;> rfl) | (simp [errW_none, errW_some]; exact ⟨rfl, rfl⟩) | (simp [errW_none, errW_some]; exact ⟨rfl, rfl, rfl⟩) | (simp [*, errW_none, errW_some] <;> rfl), by repeat (first | (with_reducible first | exact HB.out | apply below_alloc | apply pw_below_drewN | apply below_drew1) | exact HB.out)⟩
         ·rw [if_neg c15] at H
          have c15b0 : decide (x9_3 ≤ 200) = false := decide_eq_false c15
          clear c15
          obtain rfl := Option.some.inj H
          go_wp2
          go_ret
          exact ⟨by first | rfl | (simp [errW_none, errW_some] <;> rfl) | (simp [errW_none, errW_some]; exact ⟨rfl, rfl⟩) | (simp [errW_none, errW_some]; exact ⟨rfl, rfl, rfl⟩) | (simp [*, errW_none, errW_some] <;> rfl), by repeat (first | (with_reducible first | exact HB.out | apply below_alloc | apply pw_below_drewN | apply below_drew1) | exact HB.out)⟩

/-- THE ONE PURE STATEMENT of laws_FnRowsSet: yours. -/
def laws_FnRowsSet.Pure : Prop := ∀ (l0 : List Int), l0.length ≤ maxLen → l0.length * 1 ≤ 140737488351232 → (∀ x ∈ l0, (Lit.int .u8 x).wf = true) → ∃ k, laws_FnRowsSet.f k l0 = some true
theorem laws_FnRowsSet.walk (P : laws_FnRowsSet.Pure) (a0 : Option Addr) (len0 cap0 : Nat) (z0 : List Int) (w : World) (w0 : (a0 = none ∧ len0 = 0 ∧ cap0 = 0 ∧ z0 = []) ∨ ∃ x, a0 = some x ∧ len0 ≤ cap0 ∧ cap0 ≤ maxLen ∧ z0.length = cap0 ∧ (∀ i, i < z0.length → w.cell? (x.add i) = some (.int .u8 (z0.getD i 0))) ∧ ∀ n ∈ z0, (Lit.int .u8 n).wf = true) (y0 : len0 * 1 ≤ 140737488351232) :
  Calls Try.prog 4 #[.slice a0 len0 cap0] w fun e w' => e = .returned (.bool true) ∧ Below w.heap.size w w' := by
 obtain ⟨l0, rfl, hr0, hm0, hw0, hc0⟩ := ReadsInt.ofRowC w0
 obtain ⟨k, h⟩ := P l0 hm0 y0 hw0
 refine (laws_FnRowsSet.calls k _ _ l0 true w (Kd.C_of_reads (d := (0 : Int)) (h1 := fun _ => rfl) hr0) hc0 h).mono ?_
 rintro e w' ⟨rfl, hd⟩
 exact ⟨rfl, hd⟩

end Go.Proofs.Ytdoghlojgofmaaa.Q

namespace Go.Proofs.Ytdoghlojgofmaaa.Q
open Go.RowKit Go.Proofs.YtdoghlojgofmaaaW.PrintWords Go.Proofs.YtdoghlojgofmaaaW.PrintLast Go.Proofs.YtdoghlojgofmaaaW.PrintMore
open Go.Proofs.Ytdoghlojgofmaaa.Pl
set_option linter.unusedVariables false
set_option linter.unusedSimpArgs false
theorem idx_ev {P : Nat → S79 → Option Bool} {q : S79 → Bool} : ∀ (l : List S79) (i : Nat), (∀ x ∈ l, Ev (fun k => P k x) (q x)) → ∃ r : Int, Ev (fun k => RowIdx.f (P k) l i) r ∧ decide (r ≥ 0) = l.any q := by
  intro l
  induction l with
  | nil => intro i _; exact ⟨-1, Ev.now _, rfl⟩
  | cons x l ih =>
    intro i h
    have hx := h x (List.mem_cons_self ..)
    cases hq : q x with
    | true =>
      rw [hq] at hx
      refine ⟨(i : Int), Ev.bind hx (Ev.now _), ?_⟩
      rw [List.any_cons, hq, Bool.true_or, decide_eq_true (by omega)]
    | false =>
      rw [hq] at hx
      obtain ⟨r, r1, r2⟩ := ih (i + 1) (fun y hy => h y (List.mem_cons_of_mem _ hy))
      exact ⟨r, Ev.bind hx r1, by rw [List.any_cons, hq, Bool.false_or]; exact r2⟩
theorem any_ev {P : Nat → S79 → Option Bool} {q : S79 → Bool} (l : List S79) (h : ∀ x ∈ l, Ev (fun k => P k x) (q x)) : Ev (fun k => RowAny.f l (P k)) (l.any q) := by
  obtain ⟨r, r1, r2⟩ := idx_ev l 0 h
  rw [← r2]
  exact Ev.bind r1 (Ev.now _)

theorem again_l {ms : List (Nat × Nat)} (hr : ∀ x ∈ ms, Row60 x) (hlen : ms.length ≤ 6) (d : Nat) : ∀ i, i + d = 61 → 1 ≤ i → i ≤ 60 → ∃ r : Nat, 1 ≤ r ∧ r ≤ 60 ∧ Ev (fun k => impl_again.loop k (ms.map toS) d i) (r : Int) ∧ ∀ x ∈ ms, Cov x.1 (Nat.gcd x.2 r) ms := by
  induction d with
  | zero => intro i hi _ h; omega
  | succ d ih =>
    intro i hi h1 h60
    have one : ∀ x ∈ ms, ∃ r, Ev (fun k => impl_again.p k (i : Int) (ms.map toS) (toS x)) (!r) ∧ (r = true ↔ Cov x.1 (Nat.gcd x.2 i) ms) := by
      intro x hx
      have hxr := hr x hx
      have hxl := hxr.le
      obtain ⟨r, r1, r2⟩ := covered_ev (60 / Nat.gcd x.2 i) x.1 (Nat.gcd x.2 i) ms (Nat.le_refl _) (Nat.dvd_trans (Nat.gcd_dvd_left x.2 i) hxr.dvd) (by omega) hlen hr
      exact ⟨r, Ev.bind (gcd_ev i x.2) (Ev.bind r1 (Ev.now _)), r2⟩
    have cho : ∃ q : S79 → Bool, (∀ y ∈ ms.map toS, Ev (fun k => impl_again.p k (i : Int) (ms.map toS) y) (q y)) ∧ ∀ x ∈ ms, (q (toS x) = false ↔ Cov x.1 (Nat.gcd x.2 i) ms) := by
      classical
      refine ⟨fun y => decide (¬ Cov y.f0.toNat (Nat.gcd y.f1.toNat i) ms), ?_, ?_⟩
      · intro y hy
        obtain ⟨x, hx, rfl⟩ := List.mem_map.1 hy
        obtain ⟨r, r1, r2⟩ := one x hx
        have e : (!r) = decide (¬ Cov (toS x).f0.toNat (Nat.gcd (toS x).f1.toNat i) ms) := by
          show (!r) = decide (¬ Cov ((x.1 : Int)).toNat (Nat.gcd ((x.2 : Int)).toNat i) ms)
          rw [Int.toNat_natCast, Int.toNat_natCast]
          cases r with
          | true =>
            have hc := r2.1 rfl
            symm
            rw [Bool.not_true, decide_eq_false_iff_not]
            exact fun h => h hc
          | false =>
            symm
            rw [Bool.not_false, decide_eq_true_eq]
            intro h
            have := r2.2 h
            cases this
        rw [e] at r1; exact r1
      · intro x hx
        show decide (¬ Cov ((x.1 : Int)).toNat (Nat.gcd ((x.2 : Int)).toNat i) ms) = false ↔ _
        rw [Int.toNat_natCast, Int.toNat_natCast, decide_eq_false_iff_not]
        exact Classical.not_not
    obtain ⟨q, q1, q2⟩ := cho
    have hany := any_ev (ms.map toS) q1
    cases ha : (ms.map toS).any q with
    | false =>
      rw [ha] at hany
      refine ⟨i, h1, h60, Ev.bind hany (Ev.now _), fun x hx => (q2 x hx).1 ?_⟩
      exact Bool.eq_false_iff.2 fun h => by
        have : (ms.map toS).any q = true := List.any_eq_true.2 ⟨toS x, List.mem_map_of_mem hx, h⟩
        rw [ha] at this; cases this
    | true =>
      rw [ha] at hany
      have hlt : i < 60 := by
        refine Decidable.byContradiction fun c => ?_
        obtain rfl : i = 60 := by omega
        obtain ⟨y, hy, hq⟩ := List.any_eq_true.1 ha
        obtain ⟨x, hx, rfl⟩ := List.mem_map.1 hy
        have := (q2 x hx).2 (cov_self hx (hr x hx).dvd)
        rw [this] at hq; cases hq
      obtain ⟨r, r1, r2, r3, r4⟩ := ih (i + 1) (by omega) (by omega) (by omega)
      exact ⟨r, r1, r2, Ev.bind hany r3, r4⟩
theorem again_ev {ms : List (Nat × Nat)} (hr : ∀ x ∈ ms, Row60 x) (hlen : ms.length ≤ 6) : ∃ d : Nat, 1 ≤ d ∧ d ≤ 60 ∧ Ev (fun k => impl_again.f k (ms.map toS)) (d : Int) ∧ ∀ n, Un ms (n + d) ↔ Un ms n := by
  obtain ⟨r, r1, r2, r3, r4⟩ := again_l hr hlen 60 1 (by omega) (by omega) (by omega)
  refine ⟨r, r1, r2, ?_, fun n => un_period r4 n⟩
  unfold impl_again.f
  rw [show (fun k => _) = _ from funext fun k => if_pos (by rw [List.length_map]; omega)]
  exact r3

def okRow (r : List Int) : Bool := decide (r.length = 2) && (decide (0 ≤ rd r 0 ∧ rd r 0 ≤ 59) && decide (0 ≤ rd r 1 ∧ rd r 1 ≤ 60))
def toR (r : List Int) : S79 := ⟨rd r 0, rd r 1⟩
theorem in_eq7 (v a b : Int) : impl_in.f v a b = some (decide (a ≤ v ∧ v ≤ b)) := by
  unfold impl_in.f
  by_cases c1 : a ≤ v
  · by_cases c2 : v ≤ b <;> simp [c1, c2]
  · simp [c1]
theorem in_eq6 (v a b : Int) : spec_l6In.f v a b = some (decide (a ≤ v ∧ v ≤ b)) := by
  unfold spec_l6In.f
  by_cases c1 : v ≥ a
  · rw [if_pos c1]; congr 1; rw [decide_eq_decide]; exact ⟨fun h => ⟨c1, h⟩, fun h => h.2⟩
  · rw [if_neg c1, decide_eq_false (fun h => c1 h.1)]
theorem l3Row_eq (r : List Int) : spec_l3Row.f r = some (okRow r) := by
  unfold spec_l3Row.f okRow
  by_cases h : r.length = 2
  · rw [if_pos (by omega), if_pos (by omega), in_eq6, decide_eq_true h]
    simp only [Option.bind_some, Bool.true_and]
    cases c : decide (0 ≤ rd r 0 ∧ rd r 0 ≤ 59) with
    | true => rw [if_pos rfl, if_pos (by omega), in_eq6]; rfl
    | false => rw [if_neg (by simp)]; rfl
  · rw [if_neg (by omega), decide_eq_false h]; rfl
theorem rd_row (rows : List (List Int)) (i : Nat) (h : i < rows.length) : ∃ r, rd_L5 rows (i : Int) = r ∧ rows.drop i = r :: rows.drop (i + 1) := by
  refine ⟨rows[i], ?_, List.drop_eq_getElem_cons h⟩
  simp [rd_L5, List.getD, h]
theorem rowsOf_l0 {rows : List (List Int)} (hlen : rows.length ≤ 20) (d : Nat) : ∀ (i : Nat) (acc : List S79), i + d = rows.length → acc.length = i →
    Ev (fun k => impl_rowsOf.l0 k acc rows (rows.length : Int) (i : Int)) (if (rows.drop i).all okRow = true then (acc ++ (rows.drop i).map toR, true) else ([], false)) := by
  induction d with
  | zero =>
    intro i acc hi ha
    obtain rfl : i = rows.length := by omega
    rw [List.drop_length]
    refine Ev.end fun k => ?_
    simp only [impl_rowsOf.l0]
    rw [if_neg (by omega), decide_eq_true (by omega)]
    simp
  | succ d ih =>
    intro i acc hi ha
    obtain ⟨r, h1, h2⟩ := rd_row rows i (by omega)
    rw [h2, List.all_cons, List.map_cons]
    have no : okRow r = false → Ev (fun k => impl_rowsOf.l0 k acc rows (rows.length : Int) (i : Int)) (([] : List S79), false) := by
      intro hb
      refine Ev.end fun k => ?_
      simp only [impl_rowsOf.l0, h1, in_eq7]
      rw [if_pos (by omega), if_pos (by omega), if_pos (by omega)]
      unfold okRow at hb
      by_cases hl : r.length = 2
      · rw [if_pos (by omega), if_pos (by omega)]
        rw [decide_eq_true hl, Bool.true_and] at hb
        simp only [Option.bind_some]
        cases c : decide (0 ≤ rd r 0 ∧ rd r 0 ≤ 59) with
        | false => rw [if_neg (by simp)]
        | true =>
          rw [c, Bool.true_and] at hb
          rw [if_pos rfl, if_pos (by omega), hb, if_neg (by simp)]
      · rw [if_neg (by omega)]
    cases hb : okRow r with
    | false =>
      rw [Bool.false_and, if_neg (by simp)]
      exact no hb
    | true =>
      rw [Bool.true_and]
      have k1 := ih (i + 1) (acc ++ [toR r]) (by omega) (by simp [ha])
      rw [List.append_assoc] at k1
      refine Ev.step (fun k => ?_) k1
      unfold okRow at hb
      simp only [Bool.and_eq_true, decide_eq_true_eq] at hb
      simp only [impl_rowsOf.l0, h1, in_eq7, decide_eq_true hb.2.1, decide_eq_true hb.2.2, Option.bind_some, if_true]
      rw [if_pos (by omega), if_pos (by omega), if_pos (by omega), if_pos (by omega), if_pos (by omega), if_pos (by omega), if_pos (by omega), wr1 (by omega)]
      rfl
theorem rowsOf_ev {rows : List (List Int)} (hlen : rows.length ≤ 20) : Ev (fun k => impl_rowsOf.f k rows) (if rows.all okRow = true then (rows.map toR, true) else ([], false)) := by
  have := rowsOf_l0 hlen rows.length 0 [] (by omega) rfl
  unfold impl_rowsOf.f
  simpa using this
theorem l3Rows_l0 {rows : List (List Int)} (hlen : rows.length ≤ 20) (d : Nat) : ∀ i, i + d = rows.length → Ev (fun k => spec_l3Rows.l0 k rows (i : Int)) ((rows.drop i).all okRow) := by
  induction d with
  | zero =>
    intro i hi
    obtain rfl : i = rows.length := by omega
    rw [List.drop_length]
    refine Ev.end fun k => ?_
    simp only [spec_l3Rows.l0]
    rw [if_neg (by omega), decide_eq_true (by omega)]
    rfl
  | succ d ih =>
    intro i hi
    obtain ⟨r, h1, h2⟩ := rd_row rows i (by omega)
    rw [h2, List.all_cons]
    cases hb : okRow r with
    | false =>
      refine Ev.end fun k => ?_
      simp only [spec_l3Rows.l0, h1, l3Row_eq, hb]
      rw [if_pos (by omega), if_pos (by omega)]
      rfl
    | true =>
      rw [Bool.true_and]
      refine Ev.step (fun k => ?_) (ih (i + 1) (by omega))
      simp only [spec_l3Rows.l0, h1, l3Row_eq, hb]
      rw [if_pos (by omega), if_pos (by omega), Option.bind_some, if_pos rfl, wr1 (by omega)]
theorem l3Rows_ev {rows : List (List Int)} (hlen : rows.length ≤ 20) : Ev (fun k => spec_l3Rows.f k rows) (rows.all okRow) := by
  have := l3Rows_l0 hlen rows.length 0 (by omega)
  unfold spec_l3Rows.f
  simpa using this

def rowI (x : Nat × Nat) : List Int := [(x.1 : Int), (x.2 : Int)]
structure RowOk (x : Nat × Nat) : Prop where
  le : x.1 ≤ 59
  dvd : x.2 = 0 ∨ x.2 ∣ 60
theorem RowOk.le2 {x : Nat × Nat} (h : RowOk x) : x.2 ≤ 60 := by
  rcases h.dvd with h | h
  · omega
  · exact Nat.le_of_dvd (by omega) h
theorem okRow_rowI {x : Nat × Nat} (h : RowOk x) : okRow (rowI x) = true := by
  have h1 := h.le
  have h2 := h.le2
  unfold okRow rowI
  rw [show rd [(x.1 : Int), (x.2 : Int)] 0 = (x.1 : Int) from rfl, show rd [(x.1 : Int), (x.2 : Int)] 1 = (x.2 : Int) from rfl, decide_eq_true (by rfl), decide_eq_true (by omega), decide_eq_true (by omega)]
  rfl
theorem all_rowI {xs : List (Nat × Nat)} (h : ∀ x ∈ xs, RowOk x) : (xs.map rowI).all okRow = true := List.all_eq_true.2 fun r hr => by
  obtain ⟨x, hx, rfl⟩ := List.mem_map.1 hr
  exact okRow_rowI (h x hx)
theorem toR_rowI (xs : List (Nat × Nat)) : (xs.map rowI).map toR = xs.map toS := by
  rw [List.map_map]; rfl
/-- A row has a number. -/
def hasN (x : Nat × Nat) (n : Nat) : Bool := if x.2 = 0 then n == x.1 else decide (x.1 ≤ n) && ((n - x.1) % x.2 == 0)
def cntN (xs : List (Nat × Nat)) (n : Nat) : Nat := xs.countP fun x => hasN x n
theorem has_core {b s n : Nat} (hb : b ≤ 1000) (hn : n ≤ 1000000) : (if (s : Int) = 0 then some ((n : Int) == (b : Int)) else (if (n : Int) ≥ (b : Int) then some (Int.tmod (wrap64 ((n : Int) - (b : Int))) (s : Int) == 0) else some false)) = some (hasN (b, s) n) := by
  unfold hasN
  by_cases h0 : s = 0
  · rw [if_pos (by omega), if_pos h0]
    congr 1
    rw [Bool.eq_iff_iff, beq_iff_eq, beq_iff_eq]
    show (n : Int) = b ↔ n = b
    omega
  · rw [if_neg (by omega), if_neg h0]
    by_cases h1 : b ≤ n
    · rw [if_pos (by omega), wr (by omega) (by omega), show (n : Int) - (b : Int) = ((n - b : Nat) : Int) by omega, tmod_nat, decide_eq_true (show (b, s).1 ≤ n from h1), Bool.true_and]
      congr 1
      rw [Bool.eq_iff_iff, beq_iff_eq, beq_iff_eq]
      show (((n - b) % s : Nat) : Int) = 0 ↔ (n - b) % s = 0
      omega
    · rw [if_neg (by omega), decide_eq_false (show ¬ (b, s).1 ≤ n from h1), Bool.false_and]
theorem row_has {x : Nat × Nat} (h : RowOk x) {n : Nat} (hn : n ≤ 1000000) : impl_row_has.f x.1 x.2 n = some (hasN x n) := by
  unfold impl_row_has.f
  have := h.le
  exact has_core (by omega) hn
theorem l3Has_eq {x : Nat × Nat} (h : RowOk x) {n : Nat} (hn : n ≤ 1000000) : spec_l3Has.f (rowI x) n = some (hasN x n) := by
  have := h.le
  rw [← has_core (b := x.1) (s := x.2) (by omega) hn]
  unfold spec_l3Has.f rowI
  rw [if_pos (by simp), show rd [(x.1 : Int), (x.2 : Int)] 0 = (x.1 : Int) from rfl, show rd [(x.1 : Int), (x.2 : Int)] 1 = (x.2 : Int) from rfl]
  by_cases h0 : (x.2 : Int) = 0
  · rw [if_pos h0, if_pos h0, if_pos (by simp)]
  · rw [if_neg h0, if_neg h0, if_pos (by simp)]
theorem drop_rowI (xs : List (Nat × Nat)) (i : Nat) (h : i < xs.length) : ∃ x, x ∈ xs ∧ rd_L5 (xs.map rowI) (i : Int) = rowI x ∧ rd_T79 (xs.map toS) (i : Int) = toS x ∧ xs.drop i = x :: xs.drop (i + 1) := by
  refine ⟨xs[i], List.getElem_mem h, ?_, ?_, List.drop_eq_getElem_cons h⟩
  · simp [rd_L5, List.getD, h]
  · simp [rd_T79, List.getD, h]
theorem cnt_cons (x : Nat × Nat) (l : List (Nat × Nat)) (n : Nat) : cntN (x :: l) n = (if hasN x n = true then 1 else 0) + cntN l n := by
  unfold cntN
  rw [List.countP_cons]
  omega
theorem l3Many_l0 {xs : List (Nat × Nat)} (hx : ∀ x ∈ xs, RowOk x) (hlen : xs.length ≤ 20) {n : Nat} (hn : n ≤ 1000000) (d : Nat) : ∀ (i c : Nat), i + d = xs.length → c ≤ 1000 + i → Ev (fun k => spec_l3Many.l0 k (xs.map rowI) n (c : Int) (i : Int)) ((c + cntN (xs.drop i) n : Nat) : Int) := by
  induction d with
  | zero =>
    intro i c hi hc
    obtain rfl : i = xs.length := by omega
    rw [List.drop_length]
    refine Ev.end fun k => ?_
    simp only [spec_l3Many.l0, List.length_map]
    rw [if_neg (by omega)]
    rfl
  | succ d ih =>
    intro i c hi hc
    obtain ⟨x, h0, h1, _, h2⟩ := drop_rowI xs i (by omega)
    rw [h2, cnt_cons]
    cases hb : hasN x n with
    | true =>
      have k1 := ih (i + 1) (c + 1) (by omega) (by omega)
      rw [if_pos rfl, show c + (1 + cntN (xs.drop (i + 1)) n) = c + 1 + cntN (xs.drop (i + 1)) n by omega]
      refine Ev.step (fun k => ?_) k1
      simp only [spec_l3Many.l0, List.length_map, h1, l3Has_eq (hx x h0) hn, hb]
      rw [if_pos (by omega), if_pos (by omega), Option.bind_some, if_pos rfl, wr1 (by omega), wr1 (by omega)]
    | false =>
      have k1 := ih (i + 1) c (by omega) (by omega)
      rw [if_neg (by simp), Nat.zero_add]
      refine Ev.step (fun k => ?_) k1
      simp only [spec_l3Many.l0, List.length_map, h1, l3Has_eq (hx x h0) hn, hb]
      rw [if_pos (by omega), if_pos (by omega), Option.bind_some, if_neg (by simp), wr1 (by omega)]
theorem l3Many_ev {xs : List (Nat × Nat)} (hx : ∀ x ∈ xs, RowOk x) (hlen : xs.length ≤ 20) {n : Nat} (hn : n ≤ 1000000) : Ev (fun k => spec_l3Many.f k (xs.map rowI) n) ((cntN xs n : Nat) : Int) := by
  have := l3Many_l0 hx hlen hn xs.length 0 0 (by omega) (by omega)
  unfold spec_l3Many.f
  simpa using this
theorem rowsHas_l0 {xs : List (Nat × Nat)} (hx : ∀ x ∈ xs, RowOk x) (hlen : xs.length ≤ 20) {n : Nat} (hn : n ≤ 1000000) (d : Nat) : ∀ (i c : Nat), i + d = xs.length → c ≤ 1000 + i → Ev (fun k => impl_RowsHas.l0 k n (c : Int) (xs.map toS) (xs.length : Int) (i : Int)) (((c + cntN (xs.drop i) n : Nat) : Int), true) := by
  induction d with
  | zero =>
    intro i c hi hc
    obtain rfl : i = xs.length := by omega
    rw [List.drop_length]
    refine Ev.end fun k => ?_
    simp only [impl_RowsHas.l0]
    rw [if_neg (by omega)]
    rfl
  | succ d ih =>
    intro i c hi hc
    obtain ⟨x, h0, _, h1, h2⟩ := drop_rowI xs i (by omega)
    rw [h2, cnt_cons]
    have hh : impl_row_has.f (toS x).f0 (toS x).f1 n = some (hasN x n) := row_has (hx x h0) hn
    cases hb : hasN x n with
    | true =>
      rw [hb] at hh
      have k1 := ih (i + 1) (c + 1) (by omega) (by omega)
      rw [if_pos rfl, show c + (1 + cntN (xs.drop (i + 1)) n) = c + 1 + cntN (xs.drop (i + 1)) n by omega]
      refine Ev.step (fun k => ?_) k1
      simp only [impl_RowsHas.l0, List.length_map, h1, hh]
      rw [if_pos (by omega), if_pos (by omega), if_pos (by omega), Option.bind_some, if_pos rfl, wr1 (by omega), wr1 (by omega)]
    | false =>
      rw [hb] at hh
      have k1 := ih (i + 1) c (by omega) (by omega)
      rw [if_neg (by simp), Nat.zero_add]
      refine Ev.step (fun k => ?_) k1
      simp only [impl_RowsHas.l0, List.length_map, h1, hh]
      rw [if_pos (by omega), if_pos (by omega), if_pos (by omega), Option.bind_some, if_neg (by simp), wr1 (by omega)]
theorem rowsOf_ok {xs : List (Nat × Nat)} (hx : ∀ x ∈ xs, RowOk x) (hlen : xs.length ≤ 20) : Ev (fun k => impl_rowsOf.f k (xs.map rowI)) (xs.map toS, true) := by
  have := rowsOf_ev (rows := xs.map rowI) (by rw [List.length_map]; exact hlen)
  rw [if_pos (all_rowI hx), toR_rowI] at this
  exact this
theorem rowsHas_ev {xs : List (Nat × Nat)} (hx : ∀ x ∈ xs, RowOk x) (hlen : xs.length ≤ 20) {n : Nat} (hn : n ≤ 10000) : Ev (fun k => impl_RowsHas.f k (xs.map rowI) n) (((cntN xs n : Nat) : Int), true) := by
  unfold impl_RowsHas.f
  refine Ev.bind (rowsOf_ok hx hlen) ?_
  simp only [if_true, in_eq7, decide_eq_true (show (0 : Int) ≤ (n : Int) ∧ (n : Int) ≤ 10000 by omega), Option.bind_some, Bool.not_true]
  refine Ev.step (f := fun k => impl_RowsHas.l0 k n 0 (xs.map toS) (xs.length : Int) 0) (fun k => ?_) ?_
  · rw [impl_RowsHas.j0, if_neg (by simp), List.length_map]
  · have := rowsHas_l0 hx hlen (show n ≤ 1000000 by omega) xs.length 0 0 (by omega) (by omega)
    simpa using this

theorem wr_nat {a : Nat} (h : a ≤ 1000) : wrap64 (a : Int) = (a : Int) := wr (by omega) (by omega)
theorem mult_l0 {xs : List (Nat × Nat)} (hx : ∀ x ∈ xs, RowOk x) (hlen : xs.length ≤ 20) (d : Nat) : ∀ (i m : Nat), i + d = xs.length → m ∣ 60 → ∃ L : Nat, L ∣ 60 ∧ m ∣ L ∧ (∀ x ∈ xs.drop i, x.2 ≠ 0 → x.2 ∣ L) ∧ Ev (fun k => spec_l3Multiple.l0 k (xs.map rowI) (m : Int) (i : Int)) (L : Int) := by
  induction d with
  | zero =>
    intro i m hi hm
    obtain rfl : i = xs.length := by omega
    refine ⟨m, hm, Nat.dvd_refl m, by rw [List.drop_length]; simp, Ev.end fun k => ?_⟩
    simp only [spec_l3Multiple.l0, List.length_map]
    rw [if_neg (by omega)]
  | succ d ih =>
    intro i m hi hm
    obtain ⟨x, h0, h1, _, h2⟩ := drop_rowI xs i (by omega)
    have hm60 := Nat.le_of_dvd (by omega : 0 < 60) hm
    have hm0 := Nat.pos_of_dvd_of_pos hm (by omega)
    have hxo := hx x h0
    have hr1 : rd (rowI x) 1 = (x.2 : Int) := rfl
    have hrl : ((rowI x).length : Int) = 2 := rfl
    rw [h2]
    by_cases hz : x.2 = 0
    · obtain ⟨L, a, b, c, e⟩ := ih (i + 1) m (by omega) hm
      refine ⟨L, a, b, ?_, Ev.step (fun k => ?_) e⟩
      · intro y hy hne
        rcases List.mem_cons.1 hy with rfl | hy
        · exact absurd hz hne
        · exact c y hy hne
      · simp only [spec_l3Multiple.l0, List.length_map, h1, hr1, hrl]
        rw [if_pos (by omega), if_pos (by omega), if_pos (by omega), if_neg (by omega), if_neg (by omega), wr1 (by omega)]
    · have f1 : (i : Int) < (xs.length : Int) := by omega
      have f2 : (0 : Int) ≤ (i : Int) := by omega
      have f3 : (x.2 : Int) > 0 := by omega
      have hd : x.2 ∣ 60 := hxo.dvd.resolve_left hz
      have hl60 := Nat.lcm_dvd hm hd
      have hlle := Nat.le_of_dvd (by omega : 0 < 60) hl60
      obtain ⟨L, a, b, c, e⟩ := ih (i + 1) (Nat.lcm m x.2) (by omega) hl60
      refine ⟨L, a, Nat.dvd_trans (Nat.dvd_lcm_left m x.2) b, ?_, ?_⟩
      · intro y hy hne
        rcases List.mem_cons.1 hy with rfl | hy
        · exact Nat.dvd_trans (Nat.dvd_lcm_right m y.2) b
        · exact c y hy hne
      · have hg0 : 0 < Nat.gcd m x.2 := Nat.gcd_pos_of_pos_left _ hm0
        have hgz : ¬ ((Nat.gcd m x.2 : Nat) : Int) = 0 := by omega
        have hLz : ¬ ((Nat.lcm m x.2 : Nat) : Int) > 1000000 := by omega
        have hwi : wrap64 ((i : Int) + 1) = ((i + 1 : Nat) : Int) := wr1 (by omega)
        have hlc : m / Nat.gcd m x.2 * x.2 = Nat.lcm m x.2 := by
          show m / Nat.gcd m x.2 * x.2 = m * x.2 / Nat.gcd m x.2
          rw [Nat.div_mul_right_comm (Nat.gcd_dvd_left m x.2)]
        have hdm : m / Nat.gcd m x.2 ≤ m := Nat.div_le_self _ _
        have e1 : wrap64 (Int.tdiv (m : Int) ((Nat.gcd m x.2 : Nat) : Int)) = ((m / Nat.gcd m x.2 : Nat) : Int) := by rw [tdiv_nat]; exact wr_nat (Nat.le_trans hdm (Nat.le_trans hm60 (by decide)))
        have e2 : wrap64 (((m / Nat.gcd m x.2 : Nat) : Int) * (x.2 : Int)) = ((Nat.lcm m x.2 : Nat) : Int) := by
          rw [cov_wmul (by rw [hlc]; exact Nat.le_trans hlle (by decide)), hlc]
        refine Ev.step (f := fun k => (spec_l1Divisor.f k (m : Int) (x.2 : Int)).bind fun t => if t = 0 then none else (if (wrap64 ((wrap64 (Int.tdiv (m : Int) t)) * (x.2 : Int))) > 1000000 then some 0 else spec_l3Multiple.l0 k (xs.map rowI) (wrap64 ((wrap64 (Int.tdiv (m : Int) t)) * (x.2 : Int))) (wrap64 ((i : Int) + 1)))) (fun k => ?_) (Ev.bind (l1Divisor_ev x.2 m) ?_)
        · clear e1 e2 hlc
          simp only [spec_l3Multiple.l0, List.length_map, h1, hr1, hrl]
          rw [if_pos f1, if_pos f2, if_pos (by decide), if_pos f3]
        · refine Ev.congr (fun k => ?_) e
          rw [if_neg hgz, e1, e2, if_neg hLz, hwi]
theorem mult_ev {xs : List (Nat × Nat)} (hx : ∀ x ∈ xs, RowOk x) (hlen : xs.length ≤ 20) : ∃ L : Nat, L ∣ 60 ∧ (∀ x ∈ xs, x.2 ≠ 0 → x.2 ∣ L) ∧ Ev (fun k => spec_l3Multiple.f k (xs.map rowI)) (L : Int) := by
  obtain ⟨L, a, _, c, e⟩ := mult_l0 hx hlen xs.length 0 1 (by omega) (Nat.one_dvd 60)
  exact ⟨L, a, by simpa using c, e⟩

def anyN (xs : List (Nat × Nat)) (n : Nat) : Bool := decide (0 < cntN xs n)
theorem anyN_iff (xs : List (Nat × Nat)) (n : Nat) : anyN xs n = true ↔ ∃ x ∈ xs, hasN x n = true := by
  unfold anyN cntN
  rw [decide_eq_true_eq, List.countP_pos_iff]
def movN (xs : List (Nat × Nat)) : List (Nat × Nat) := xs.filter fun x => !(x.2 == 0)
theorem anyN_far {xs : List (Nat × Nat)} (hx : ∀ x ∈ xs, RowOk x) {n : Nat} (hn : 60 ≤ n) : anyN xs n = true ↔ Un (movN xs) n := by
  rw [anyN_iff]
  unfold Un movN
  constructor
  · rintro ⟨x, hm, hh⟩
    have hle := (hx x hm).le
    unfold hasN at hh
    by_cases hz : x.2 = 0
    · rw [if_pos hz, beq_iff_eq] at hh; omega
    · rw [if_neg hz, Bool.and_eq_true, decide_eq_true_eq, beq_iff_eq] at hh
      refine ⟨x, List.mem_filter.2 ⟨hm, by simpa using hz⟩, ?_⟩
      exact mod_of_dvd_sub hh.1 (Nat.dvd_of_mod_eq_zero hh.2)
  · rintro ⟨x, hm, hh⟩
    obtain ⟨h1, h2⟩ := List.mem_filter.1 hm
    have hle := (hx x h1).le
    have hz : ¬ x.2 = 0 := by simpa using h2
    refine ⟨x, h1, ?_⟩
    unfold hasN
    rw [if_neg hz, Bool.and_eq_true, decide_eq_true_eq, beq_iff_eq]
    exact ⟨by omega, Nat.sub_mod_eq_zero_of_mod_eq hh⟩
theorem anyN_period {xs : List (Nat × Nat)} (hx : ∀ x ∈ xs, RowOk x) {d : Nat} (h : ∀ n, Un (movN xs) (n + d) ↔ Un (movN xs) n) (n : Nat) (hn : 60 ≤ n) : anyN xs (n + d) = anyN xs n := by
  rw [Bool.eq_iff_iff, anyN_far hx (by omega), anyN_far hx hn]
  exact h n
theorem mov_row {xs : List (Nat × Nat)} (hx : ∀ x ∈ xs, RowOk x) : ∀ x ∈ movN xs, Row60 x := by
  intro x hm
  obtain ⟨h1, h2⟩ := List.mem_filter.1 hm
  have hz : ¬ x.2 = 0 := by simpa using h2
  exact ⟨(hx x h1).le, (hx x h1).dvd.resolve_left hz⟩
theorem moving_eq {xs : List (Nat × Nat)} (hlen : xs.length ≤ 20) : impl_moving.f (xs.map toS) = some ((movN xs).map toS) := by
  unfold impl_moving.f
  rw [if_pos (by rw [List.length_map]; omega)]
  congr 1
  unfold movN
  rw [List.filter_map]
  congr 1
  refine List.filter_congr fun x _ => ?_
  show (!((x.2 : Int) == 0)) = !(x.2 == 0)
  congr 1
  rw [Bool.eq_iff_iff, beq_iff_eq, beq_iff_eq]
  omega
theorem rowsSet_impl {xs : List (Nat × Nat)} (hx : ∀ x ∈ xs, RowOk x) (hlen : xs.length ≤ 20) (hm : (movN xs).length ≤ 6) : ∃ x, Ev (fun k => impl_RowsSet.f k (xs.map rowI)) x ∧ Told (anyN xs) x := by
  obtain ⟨d, d1, d2, d3, d4⟩ := again_ev (mov_row hx) hm
  obtain ⟨x, x1, x2⟩ := made_ev (f := anyN xs) (from_ := 60) (size := d) d1 ⟨by omega, by omega⟩ (fun n hn => anyN_period hx d4 n hn) (P := fun _ => impl_RowsSet.p (xs.map toS)) (fun n hn => by
    unfold impl_RowsSet.p
    have := any_ev (P := fun _ x => impl_row_has.f x.f0 x.f1 n) (q := fun y => hasN (y.f0.toNat, y.f1.toNat) n) (xs.map toS) (fun y hy => by
      obtain ⟨x, hm, rfl⟩ := List.mem_map.1 hy
      refine Ev.const fun _ => ?_
      show impl_row_has.f x.1 x.2 n = some (hasN (((x.1 : Int)).toNat, ((x.2 : Int)).toNat) n)
      rw [Int.toNat_natCast, Int.toNat_natCast]
      exact row_has (hx x hm) (by omega))
    have e : (xs.map toS).any (fun y => hasN (y.f0.toNat, y.f1.toNat) n) = anyN xs n := by
      rw [Bool.eq_iff_iff, anyN_iff, List.any_map, List.any_eq_true]
      exact Iff.rfl
    rw [e] at this
    exact this)
  refine ⟨x, ?_, x2⟩
  unfold impl_RowsSet.f
  refine Ev.bind (rowsOf_ok hx hlen) ?_
  simp only [moving_eq hlen, Option.bind_some]
  refine Ev.bind d3 ?_
  simp only [if_true, if_neg (show ¬ (d : Int) = 0 by omega), if_pos (show (xs.map toS).length < 1000 by rw [List.length_map]; omega)]
  exact x1
theorem rowsSet_l0 {xs : List (Nat × Nat)} (hx : ∀ x ∈ xs, RowOk x) (hlen : xs.length ≤ 20) {L : Nat} (hL : L ≤ 60) {y : ByteArray × Bool} (hy : Ev (fun k => spec_l2Fill.f k ((List.range (60 + L)).map (anyN xs)) 60) y) (d : Nat) : ∀ i, i + d = 60 + L → Ev (fun k => spec_RowsSet.l0 k (xs.map rowI) (L : Int) ((List.range i).map (anyN xs)) (i : Int)) y := by
  have hw : wrap64 (60 + (L : Int)) = ((60 + L : Nat) : Int) := by rw [wr (by omega) (by omega)]; omega
  induction d with
  | zero =>
    intro i hi
    obtain rfl : i = 60 + L := by omega
    refine Ev.step (f := fun k => (spec_l2Fill.f k ((List.range (60 + L)).map (anyN xs)) 60).bind fun z => some (z.1, z.2)) (fun k => ?_) (Ev.bind hy (Ev.now _))
    simp only [spec_RowsSet.l0, hw]
    rw [if_neg (by omega)]
  | succ d ih =>
    intro i hi
    have k1 := ih (i + 1) (by omega)
    rw [range_snoc] at k1
    refine Ev.step (f := fun k => (spec_l3Many.f k (xs.map rowI) (i : Int)).bind fun t => (if ((List.range i).map (anyN xs)).length < 140737488355328 then (spec_RowsSet.l0 k (xs.map rowI) (L : Int) ((List.range i).map (anyN xs) ++ [decide (t > 0)]) (wrap64 ((i : Int) + 1))) else none)) (fun k => ?_) (Ev.bind (l3Many_ev hx hlen (show i ≤ 1000000 by omega)) ?_)
    · simp only [spec_RowsSet.l0, hw]
      rw [if_pos (by omega)]
    · refine Ev.congr (fun k => ?_) k1
      rw [if_pos (by simp; omega), wr1 (by omega)]
      congr 2
      unfold anyN
      congr 1
      rw [decide_eq_decide]
      omega
theorem rowsSet_spec {xs : List (Nat × Nat)} (hx : ∀ x ∈ xs, RowOk x) (hlen : xs.length ≤ 20) : ∃ x, Ev (fun k => spec_RowsSet.f k (xs.map rowI)) x ∧ Told (anyN xs) x := by
  obtain ⟨L, l1, l2, l3⟩ := mult_ev hx hlen
  have hL := Nat.le_of_dvd (by omega : 0 < 60) l1
  have hL0 := Nat.pos_of_dvd_of_pos l1 (by omega)
  obtain ⟨y, y1, y2⟩ := fill_told (l := (List.range (60 + L)).map (anyN xs)) (m := 60) (by simp; omega) (by simp; omega)
  refine ⟨y, ?_, y2.congr fun n => ?_⟩
  · unfold spec_RowsSet.f
    have hr := l3Rows_ev (rows := xs.map rowI) (by rw [List.length_map]; exact hlen)
    rw [all_rowI hx] at hr
    refine Ev.bind hr ?_
    simp only [if_true]
    refine Ev.bind l3 ?_
    simp only [if_neg (show ¬ (L : Int) = 0 by omega), decide_eq_false (show ¬ (L : Int) > 60000 by omega)]
    refine Ev.step (f := fun k => spec_RowsSet.l0 k (xs.map rowI) (L : Int) ([] : List Bool) 0) (fun k => ?_) ?_
    · rw [spec_RowsSet.j0, if_neg (by simp)]
    · have := rowsSet_l0 hx hlen hL y1 (60 + L) 0 (by omega)
      simpa using this
  · have e1 : ((List.range (60 + L)).map (anyN xs)).take 60 = (List.range 60).map (anyN xs) := by
      rw [← List.map_take, List.take_range]; simp
    have e2 : ((List.range (60 + L)).map (anyN xs)).drop 60 = (List.range L).map fun i => anyN xs (60 + i) := by
      refine List.ext_getElem (by simp) fun i h1 h2 => ?_
      simp
    rw [e1, e2]
    refine per_of hL0 (fun n hn => anyN_period hx (fun m => un_step (fun x hm => ?_) m) n hn) n
    obtain ⟨h1, h2⟩ := List.mem_filter.1 hm
    exact l2 x h1 (by simpa using h2)
theorem rowsSet_both {xs : List (Nat × Nat)} (hx : ∀ x ∈ xs, RowOk x) (hlen : xs.length ≤ 20) (hm : (movN xs).length ≤ 6) : ∃ x, Ev (fun k => impl_RowsSet.f k (xs.map rowI)) x ∧ Ev (fun k => spec_RowsSet.f k (xs.map rowI)) x ∧ Told (anyN xs) x := by
  obtain ⟨x, x1, x2⟩ := rowsSet_impl hx hlen hm
  obtain ⟨y, y1, y2⟩ := rowsSet_spec hx hlen
  obtain rfl := x2.unique y2
  exact ⟨x, x1, y1, x2⟩
theorem rowsSet_no {rows : List (List Int)} (hlen : rows.length ≤ 20) (h : rows.all okRow = false) : Ev (fun k => impl_RowsSet.f k rows) ((⟨#[]⟩ : ByteArray), false) ∧ Ev (fun k => spec_RowsSet.f k rows) ((⟨#[]⟩ : ByteArray), false) := by
  constructor
  · unfold impl_RowsSet.f
    have h1 := rowsOf_ev hlen
    rw [h, if_neg (by simp)] at h1
    refine Ev.bind h1 ?_
    obtain ⟨d, _, _, d3, _⟩ := again_ev (ms := []) (by simp) (by simp)
    have hm : impl_moving.f ([] : List S79) = some [] := rfl
    simp only [hm, Option.bind_some, Bool.false_eq_true, if_false]
    exact Ev.bind d3 (Ev.now _)
  · unfold spec_RowsSet.f
    have h1 := l3Rows_ev hlen
    rw [h] at h1
    refine Ev.bind h1 ?_
    simp only [Bool.false_eq_true, if_false]
    exact Ev.now _


def GoodRow (r : List Int) : Prop := okRow r = true → ∃ x, RowOk x ∧ r = rowI x
theorem good_of {x : Nat × Nat} (h : RowOk x) : GoodRow (rowI x) := fun _ => ⟨x, h, rfl⟩
theorem rows_xs : ∀ (rows : List (List Int)), (∀ r ∈ rows, GoodRow r) → rows.all okRow = true → ∃ xs : List (Nat × Nat), rows = xs.map rowI ∧ ∀ x ∈ xs, RowOk x := by
  intro rows
  induction rows with
  | nil => intro _ _; exact ⟨[], rfl, by simp⟩
  | cons r rows ih =>
    intro h ha
    rw [List.all_cons, Bool.and_eq_true] at ha
    obtain ⟨x, hx, rfl⟩ := h r (List.mem_cons_self ..) ha.1
    obtain ⟨xs, rfl, hxs⟩ := ih (fun q hq => h q (List.mem_cons_of_mem _ hq)) ha.2
    refine ⟨x :: xs, rfl, fun y hy => ?_⟩
    rcases List.mem_cons.1 hy with rfl | hy
    · exact hx
    · exact hxs y hy
theorem row_draw {bs : List Int} (h : Bs bs) (p : Nat) (hp : p ≤ 100000) : ∃ x, RowOk x ∧ Ev (fun k => spec_l91Row.f k bs p) (rowI x, ((p + 1 + 1 : Nat) : Int)) := by
  obtain ⟨u, hu, e1⟩ := pick_ev h p 9 (by omega) (by omega) (by omega)
  obtain ⟨v, hv, e2⟩ := pick_ev h (p + 1) 8 (by omega) (by omega) (by omega)
  have key : ∃ s : Nat, (s = 0 ∨ s ∣ 60) ∧ rd ([0, 1, 2, 3, 4, 6, 12, 5] : List Int) (v : Int) = (s : Int) := by
    have : v = 0 ∨ v = 1 ∨ v = 2 ∨ v = 3 ∨ v = 4 ∨ v = 5 ∨ v = 6 ∨ v = 7 := by omega
    rcases this with rfl | rfl | rfl | rfl | rfl | rfl | rfl | rfl
    · exact ⟨0, .inl rfl, rfl⟩
    · exact ⟨1, .inr (by decide), rfl⟩
    · exact ⟨2, .inr (by decide), rfl⟩
    · exact ⟨3, .inr (by decide), rfl⟩
    · exact ⟨4, .inr (by decide), rfl⟩
    · exact ⟨6, .inr (by decide), rfl⟩
    · exact ⟨12, .inr (by decide), rfl⟩
    · exact ⟨5, .inr (by decide), rfl⟩
  obtain ⟨s, hs, hsv⟩ := key
  refine ⟨(u, s), ⟨by show u ≤ 59; omega, hs⟩, ?_⟩
  unfold spec_l91Row.f
  simp only [Option.bind_some]
  refine Ev.bind e1 (Ev.bind e2 (Ev.const fun k => ?_))
  rw [if_pos (by omega), if_pos (by simp; omega), hsv]
  rfl
theorem rows_j2 {bs : List Int} (h : Bs bs) (p : Nat) (hp : p ≤ 100000) (acc : List (List Int)) (hacc : acc.length ≤ 5) (hg : ∀ r ∈ acc, GoodRow r) : ∃ rows q, rows.length ≤ 6 ∧ (∀ r ∈ rows, GoodRow r) ∧ Ev (fun k => spec_l91Rows.j2 k acc bs p) (rows, q) := by
  obtain ⟨u, hu, e1⟩ := pick_ev h p 20 (by omega) (by omega) (by omega)
  by_cases c : u = 0
  · obtain ⟨v, hv, e2⟩ := pick_ev h (p + 1) 7 (by omega) (by omega) (by omega)
    have key : GoodRow (rd_L5 ([([60, 1] : List Int), [0, 61], [-1, 2], [1, -1], [1], [1, 2, 3], [59, 60]] : List (List Int)) (v : Int)) := by
      have : v = 0 ∨ v = 1 ∨ v = 2 ∨ v = 3 ∨ v = 4 ∨ v = 5 ∨ v = 6 := by omega
      rcases this with rfl | rfl | rfl | rfl | rfl | rfl | rfl
      · intro h; exact absurd h (by decide)
      · intro h; exact absurd h (by decide)
      · intro h; exact absurd h (by decide)
      · intro h; exact absurd h (by decide)
      · intro h; exact absurd h (by decide)
      · intro h; exact absurd h (by decide)
      · intro _; exact ⟨(59, 60), ⟨by decide, .inr (by decide)⟩, rfl⟩
    refine ⟨acc ++ [rd_L5 ([([60, 1] : List Int), [0, 61], [-1, 2], [1, -1], [1], [1, 2, 3], [59, 60]] : List (List Int)) (v : Int)], ((p + 1 + 1 : Nat) : Int), by simp; omega, ?_, ?_⟩
    · intro r hr
      rcases List.mem_append.1 hr with hr | hr
      · exact hg r hr
      · rw [List.mem_singleton.1 hr]; exact key
    · refine Ev.step (fun k => by rw [spec_l91Rows.j2]) ?_
      refine Ev.bind e1 ?_
      simp only [if_pos (show (u : Int) = 0 by omega), Option.bind_some]
      refine Ev.bind e2 (Ev.const fun k => ?_)
      rw [if_pos (by omega), if_pos (by simp; omega), if_pos (by omega)]
  · refine ⟨acc, ((p + 1 : Nat) : Int), by omega, hg, ?_⟩
    refine Ev.step (fun k => by rw [spec_l91Rows.j2]) ?_
    refine Ev.bind e1 ?_
    simp only [if_neg (show ¬ (u : Int) = 0 by omega)]
    exact Ev.now _
theorem rows_l0 {bs : List Int} (h : Bs bs) (p : Nat) (hp : p ≤ 100000) {n : Nat} (h1 : 1 ≤ n) (hn : n ≤ 4) (d : Nat) : ∀ (i : Nat) (acc : List (List Int)), i + d = n → acc.length = i → (∀ r ∈ acc, GoodRow r) → ∃ rows q, rows.length ≤ 6 ∧ (∀ r ∈ rows, GoodRow r) ∧ Ev (fun k => spec_l91Rows.l0 k acc (n : Int) (i : Int) bs p) (rows, q) := by
  induction d with
  | zero =>
    intro i acc hi ha hg
    obtain ⟨rows, q, a, b, c⟩ := rows_j2 h p hp acc (by omega) hg
    refine ⟨rows, q, a, b, Ev.step (fun k => ?_) c⟩
    simp only [spec_l91Rows.l0]
    rw [if_neg (by omega)]
  | succ d ih =>
    intro i acc hi ha hg
    have hr : GoodRow (rowI (i, n)) := good_of ⟨by show i ≤ 59; omega, .inr (show n ∣ 60 by
      have : n = 1 ∨ n = 2 ∨ n = 3 ∨ n = 4 := by omega
      rcases this with rfl | rfl | rfl | rfl <;> decide)⟩
    obtain ⟨rows, q, a, b, c⟩ := ih (i + 1) (acc ++ [rowI (i, n)]) (by omega) (by simp [ha]) (fun r hr2 => by
      rcases List.mem_append.1 hr2 with hr2 | hr2
      · exact hg r hr2
      · rw [List.mem_singleton.1 hr2]; exact hr)
    refine ⟨rows, q, a, b, Ev.step (fun k => ?_) c⟩
    simp only [spec_l91Rows.l0]
    rw [if_pos (by omega), if_pos (by omega), wr1 (by omega)]
    rfl
theorem rows_l1 {bs : List Int} (h : Bs bs) (c : Nat) : ∀ (p : Nat) (acc : List (List Int)), p + 2 * c ≤ 100000 → acc.length + c ≤ 5 → (∀ r ∈ acc, GoodRow r) → ∃ rows q, rows.length ≤ 6 ∧ (∀ r ∈ rows, GoodRow r) ∧ Ev (fun k => spec_l91Rows.l1 k acc (c : Int) bs p) (rows, q) := by
  induction c with
  | zero =>
    intro p acc hp ha hg
    obtain ⟨rows, q, a, b, c⟩ := rows_j2 h p (by omega) acc (by omega) hg
    refine ⟨rows, q, a, b, Ev.step (fun k => ?_) c⟩
    simp only [spec_l91Rows.l1]
    rw [if_neg (by omega)]
  | succ c ih =>
    intro p acc hp ha hg
    obtain ⟨x, hx, e1⟩ := row_draw h p (by omega)
    obtain ⟨rows, q, a, b, e2⟩ := ih (p + 1 + 1) (acc ++ [rowI x]) (by omega) (by simp; omega) (fun r hr2 => by
      rcases List.mem_append.1 hr2 with hr2 | hr2
      · exact hg r hr2
      · rw [List.mem_singleton.1 hr2]; exact good_of hx)
    have hw : wrap64 (((c + 1 : Nat) : Int) - 1) = (c : Int) := by rw [wr (by omega) (by omega)]; omega
    refine ⟨rows, q, a, b, Ev.step (f := fun k => (spec_l91Row.f k bs p).bind fun t => (if acc.length < 5864062014805 then (spec_l91Rows.l1 k (acc ++ [t.1]) (c : Int) bs t.2) else (none))) (fun k => ?_) (Ev.bind e1 ?_)⟩
    · simp only [spec_l91Rows.l1, hw]
      rw [if_pos (by omega)]
    · simp only [if_pos (show acc.length < 5864062014805 by omega)]
      exact e2
theorem rows_draw {bs : List Int} (h : Bs bs) : ∃ rows q, rows.length ≤ 6 ∧ (∀ r ∈ rows, GoodRow r) ∧ Ev (fun k => spec_l91Rows.f k bs 0) (rows, q) := by
  obtain ⟨u, hu, e1⟩ := pick_ev h 0 5 (by omega) (by omega) (by omega)
  have fin : ∀ y, Ev (fun k => (if (u : Int) = 0 then ((spec_l6Rd_pick.f k bs ((0 + 1 : Nat) : Int) 4).bind fun bt423 => (spec_l91Rows.l0 k ([] : List (List Int)) (wrap64 (1 + bt423.1)) 0 bs bt423.2)) else (if (u : Int) = 1 then (spec_l91Rows.j2 k ([([0, 2] : List Int), [1, 4], [3, 4]] : List (List Int)) bs ((0 + 1 : Nat) : Int)) else ((spec_l6Rd_pick.f k bs ((0 + 1 : Nat) : Int) 6).bind fun bt443 => (spec_l91Rows.l1 k ([] : List (List Int)) bt443.1 bs bt443.2))))) y → Ev (fun k => spec_l91Rows.f k bs 0) y := by
    intro y hy
    unfold spec_l91Rows.f
    simp only [Option.bind_some]
    exact Ev.bind e1 hy
  by_cases c0 : u = 0
  · obtain ⟨v, hv, e2⟩ := pick_ev h 1 4 (by omega) (by omega) (by omega)
    obtain ⟨rows, q, a, b, e3⟩ := rows_l0 h (1 + 1) (by omega) (n := 1 + v) (by omega) (by omega) (1 + v) 0 [] (by omega) rfl (by simp)
    refine ⟨rows, q, a, b, fin _ ?_⟩
    simp only [if_pos (show (u : Int) = 0 by omega)]
    refine Ev.bind e2 ?_
    simp only [show wrap64 (1 + (v : Int)) = ((1 + v : Nat) : Int) by rw [wr (by omega) (by omega)]; omega]
    exact e3
  · by_cases c1 : u = 1
    · obtain ⟨rows, q, a, b, e3⟩ := rows_j2 h 1 (by omega) [([0, 2] : List Int), [1, 4], [3, 4]] (by decide) (fun r hr => by
        simp only [List.mem_cons, List.not_mem_nil, or_false] at hr
        rcases hr with rfl | rfl | rfl
        · exact good_of (x := (0, 2)) ⟨by decide, .inr (by decide)⟩
        · exact good_of (x := (1, 4)) ⟨by decide, .inr (by decide)⟩
        · exact good_of (x := (3, 4)) ⟨by decide, .inr (by decide)⟩)
      refine ⟨rows, q, a, b, fin _ ?_⟩
      simp only [if_neg (show ¬ (u : Int) = 0 by omega), if_pos (show (u : Int) = 1 by omega)]
      exact e3
    · obtain ⟨v, hv, e2⟩ := pick_ev h 1 6 (by omega) (by omega) (by omega)
      obtain ⟨rows, q, a, b, e3⟩ := rows_l1 h v (1 + 1) [] (by omega) (by simp; omega) (by simp)
      refine ⟨rows, q, a, b, fin _ ?_⟩
      simp only [if_neg (show ¬ (u : Int) = 0 by omega), if_neg (show ¬ (u : Int) = 1 by omega)]
      exact Ev.bind e2 e3

end Go.Proofs.Ytdoghlojgofmaaa.Q

namespace Go.Proofs.Ytdoghlojgofmaaa.Pure
open Go.RowKit Go.Proofs.Ytdoghlojgofmaaa.Q Go.Proofs.YtdoghlojgofmaaaW.PrintWords Go.Proofs.YtdoghlojgofmaaaW.PrintLast Go.Proofs.Ytdoghlojgofmaaa.Pl
set_option linter.unusedSimpArgs false
theorem drawRowsSet_ev (l0 : List Int) (h : ∀ x ∈ l0, (Lit.int .u8 x).wf = true) : ∃ rows : List (List Int), rows.length ≤ 6 ∧ (∀ r ∈ rows, GoodRow r) ∧ Ev (fun k => spec_DrawRowsSet.f k l0) rows := by
  obtain ⟨bs, hb, eo⟩ := open_ev l0 h
  obtain ⟨rows, q, a, b, g⟩ := rows_draw hb
  refine ⟨rows, a, b, ?_⟩
  unfold spec_DrawRowsSet.f
  rw [eo]
  simp only [Option.bind_some]
  exact Ev.bind g (Ev.now _)
theorem setHas7 {s : ByteArray} {t r : List Bool} (h : IsSet s t r) (n : Nat) (hn : n ≤ 1073741824) : impl_SetHas.f s n = some (hasB t r n) := by
  unfold impl_SetHas.f
  rw [h.impl]; simp only [Option.bind_some, if_true]
  rw [set_has h.good n (by omega)]; rfl
theorem setLoop {xs : List (Nat × Nat)} (hx : ∀ x ∈ xs, RowOk x) (hlen : xs.length ≤ 20) {s : ByteArray} {t r : List Bool} (h : IsSet s t r) (hf : ∀ n, hasB t r n = anyN xs n) (d : Nat) : ∀ n, n + d = 201 → Ev (fun k => laws_FnRowsSet.l0 k (xs.map rowI) s (n : Int)) true := by
  induction d with
  | zero =>
    intro n hn
    refine Ev.end fun k => ?_
    simp only [laws_FnRowsSet.l0]
    rw [if_neg (by omega)]
  | succ d ih =>
    intro n hn
    refine Ev.step (f := fun k => (impl_RowsHas.f k (xs.map rowI) (n : Int)).bind fun b => (if b.2 = true then ((impl_SetHas.f s (n : Int)).bind fun t => (if (t != (decide (b.1 > 0))) = true then some false else laws_FnRowsSet.l0 k (xs.map rowI) s (wrap64 ((n : Int) + 1)))) else some false)) (fun k => ?_) (Ev.bind (rowsHas_ev hx hlen (show n ≤ 10000 by omega)) ?_)
    · simp only [laws_FnRowsSet.l0]
      rw [if_pos (by omega)]
    · simp only [if_true, setHas7 h n (by omega), Option.bind_some]
      have e : (hasB t r n != decide (((cntN xs n : Nat) : Int) > 0)) = false := by
        rw [hf, bne_eq_false_iff_eq]
        unfold anyN
        rw [decide_eq_decide]
        omega
      simp only [e, Bool.false_eq_true, if_false]
      rw [wr1 (by omega)]
      exact ih (n + 1) (by omega)
theorem FnRowsSet : laws_FnRowsSet.Pure := by
  intro l0 hm hy hw
  by_cases hz : (l0.length : Int) > 1048576
  · exact ⟨0, by unfold laws_FnRowsSet.f; rw [if_pos hz]⟩
  obtain ⟨rows, hlen, hg, e⟩ := drawRowsSet_ev l0 hw
  refine Ev.rounds ?_
  unfold laws_FnRowsSet.f
  simp only [if_neg hz]
  have fin : ∀ x : ByteArray × Bool, Ev (fun k => impl_RowsSet.f k rows) x → Ev (fun k => spec_RowsSet.f k rows) x → (x.2 = true → Ev (fun k => laws_FnRowsSet.l0 k rows x.1 0) true) → Ev (fun k => (spec_DrawRowsSet.f k l0).bind fun t582 => ((impl_RowsSet.f k t582).bind fun bt585 => ((spec_RowsSet.f k t582).bind fun bt587 => (if bt585.1.toList = bt587.1.toList then (laws_FnRowsSet.j0 k t582 bt585.1 bt585.2 (bt585.2 == bt587.2)) else (laws_FnRowsSet.j0 k t582 bt585.1 bt585.2 false))))) true := by
    intro x h1 h2 h3
    refine Ev.bind e (Ev.bind h1 (Ev.bind h2 ?_))
    simp only [if_true, beq_self_eq_true]
    refine Ev.step (fun k => by rw [laws_FnRowsSet.j0]) ?_
    simp only [if_true]
    cases hx : x.2 with
    | false =>
      refine Ev.step (f := fun k => some true) (fun k => ?_) (Ev.now _)
      rw [laws_FnRowsSet.j1]; rfl
    | true =>
      refine Ev.step (fun k => by rw [laws_FnRowsSet.j1]) ?_
      simp only [Bool.not_true, Bool.false_eq_true, if_false]
      exact h3 hx
  cases hall : rows.all okRow with
  | false =>
    obtain ⟨h1, h2⟩ := rowsSet_no (by omega) hall
    exact fin _ h1 h2 (fun h => by cases h)
  | true =>
    obtain ⟨xs, rfl, hx⟩ := rows_xs rows hg hall
    rw [List.length_map] at hlen
    obtain ⟨x, h1, h2, h3⟩ := rowsSet_both hx (by omega) (Nat.le_trans (List.length_filter_le _ _) hlen)
    refine fin x h1 h2 (fun h => ?_)
    obtain ⟨t, r, _, hG, hf, rfl⟩ := h3.yes h
    exact setLoop hx (by omega) (text_isSet hG) hf 201 0 (by omega)

end Go.Proofs.Ytdoghlojgofmaaa.Pure
