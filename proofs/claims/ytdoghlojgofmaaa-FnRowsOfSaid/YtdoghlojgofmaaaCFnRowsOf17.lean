/- The rows of a set tell it; no condition beyond the statement's own. -/
import Derived.KernelRfl
import Derived.Test.YtdoghlojgofmaaaCFnRowsOf10
import Derived.Test.YtdoghlojgofmaaaCFnRowsOf11
import Derived.Test.YtdoghlojgofmaaaCFnRowsOf12
import Derived.Test.YtdoghlojgofmaaaCFnRowsOf13
import Derived.Test.YtdoghlojgofmaaaCFnRowsOf14
import Derived.Test.YtdoghlojgofmaaaCFnRowsOf15
import Derived.Test.YtdoghlojgofmaaaCFnRowsOf16
namespace Go.Proofs.Ytdoghlojgofmaaa.Q
open Go.RowKit Go.Proofs.YtdoghlojgofmaaaW.PrintWords Go.Proofs.YtdoghlojgofmaaaW.PrintLast Go.Proofs.YtdoghlojgofmaaaW.PrintMore
attribute [local go_sem] max2_int min2_int max_two min_two max_three min_three max_four min_four   -- for this text's walks alone
set_option linter.unusedVariables false
set_option linter.unusedSimpArgs false
def impl_RowsSet.p (list : List S79) (n : Int) : Option Bool := RowAny.f list (fun x => impl_row_has.f x.f0 x.f1 n)
def impl_RowsSet.f (k : Nat) (l0 : List (List Int)) : Option (ByteArray × Bool) := (impl_rowsOf.f k l0).bind fun y => (impl_moving.f y.1).bind fun ms => (impl_again.f k ms).bind fun size => if y.2 = true then (if size = 0 then some (⟨#[]⟩, false) else if y.1.length < 1000 then impl_made.f k 60 size (impl_RowsSet.p y.1) else none) else some (⟨#[]⟩, false)
theorem impl_RowsSet.mono : ∀ l0 k, LeO (impl_RowsSet.f k l0) (impl_RowsSet.f (k + 1) l0) := fun l0 k => LeO.bind (impl_rowsOf.mono _ _) (fun _ => LeO.bind (LeO.refl _) (fun _ => LeO.bind (impl_again.mono _ _) (fun _ => LeO.ite (LeO.ite (LeO.refl _) (LeO.ite (impl_made.mono _ _ (fun _ => LeO.refl _) _ _ _) (LeO.refl _))) (LeO.refl _))))
set_option maxHeartbeats 1000000 in
set_option maxRecDepth 100000 in
theorem impl_RowsSet.lit1 (B : Nat) (n : Int) (x : S79) (q : Bool) (W : World) (h1 : W.heap[B]? = some (.cells #[.int .i64 n] 3 (0, 0))) (h : impl_row_has.f x.f0 x.f1 n = some q) :
  Calls Try.prog 49 #[.agg #[.int .i64 x.f0, .int .i64 x.f1], .pointer (some ⟨B, 0, none⟩)] W fun e W' => e = .returned (.bool q) ∧ Below W.heap.size W W' := by
 have H := Aside0.mk h
 have c0 := blk_cell (blk_alloc h1 (.cells #[.int .i64 x.f0, .int .i64 x.f1] 79 (0, 0))) 0
 clear h h1
 go_enter Try.func49, Try.ntmps49
 go_wp2_with (go_at_call 50; refine (impl_row_has.calls x.f0 x.f1 n q _ H.out).mono ?_; rintro e w2 ⟨rfl, hd⟩; have HB := Aside0.mk (below_step (below_alloc (Below.refl W.heap.size W) _) hd); clear hd)
 go_ret
 exact ⟨rfl, HB.out⟩
set_option maxHeartbeats 1000000 in
set_option maxRecDepth 100000 in
theorem impl_RowsSet.lit (B : Nat) (A : Option Addr) (c : Nat) (list : List S79) (n : Int) (q : Bool) (W : World) (h1 : W.heap[B]? = some (.cells #[.slice A list.length c] 72 (0, 0))) (r0 : Kd.C k79 W A list.length list) (hs : list.length < 1000) (h : impl_RowsSet.p list n = some q) :
  Calls Try.prog 47 #[.int .i64 n, .pointer (some ⟨B, 0, none⟩)] W fun e W' => e = .returned (.bool q) ∧ Below W.heap.size W W' := by
 have hmf : ∀ (fn : Fn) (first cap : Array Value) (w : World), (Instr.makeFunc fn first cap).run Try.prog w = .ok (.func fn first cap) w := fun _ _ _ _ => rfl
 have H := Aside0.mk h; have HR := Aside0.mk r0
 have BN := Aside0.mk (blk_new W (.cells #[.int .i64 n] 3 (0, 0)))
 have HB0 := Aside0.mk (below_alloc (Below.refl W.heap.size W) (.cells #[.int .i64 n] 3 (0, 0)))
 have c0 := blk_cell (blk_alloc h1 (.cells #[.int .i64 n] 3 (0, 0))) 0
 clear h h1 r0
 go_enter Try.func47, Try.ntmps47
 go_wp2_with (go_at_call 48; refine (RowAny.calls A c list (fun x => impl_row_has.f x.f0 x.f1 n) 49 #[.pointer (some ⟨W.heap.size, 0, none⟩)] q _ (Kd.C_below HR.out HB0.out) (by omega) (fun args_ w_ => enters_ Try.func49 (by kernel_rfl) rfl args_ w_) (fun x_ b_ W_ hW_ hb_ => impl_RowsSet.lit1 W.heap.size n x_ b_ W_ (blk_below BN.out hW_) hb_) H.out).mono ?_; rintro e w2 ⟨rfl, hd⟩; have HB := Aside0.mk (below_step HB0.out hd); clear hd)
 go_ret
 exact ⟨rfl, HB.out⟩
set_option maxHeartbeats 4000000 in
set_option maxRecDepth 100000 in
theorem impl_RowsSet.calls (k : Nat) (A0 : Option Addr) (c0 : Nat) (l0 : List (List Int)) (r1 : ByteArray) (r2 : Bool) (w : World) (hr0 : Kd.C (Kd.slice 3 (Kd.int .i64)) w A0 l0.length l0) (hc0 : l0.length ≤ c0) (h : impl_RowsSet.f k l0 = some (r1, r2)) :
  Calls Try.prog 15 #[.slice A0 l0.length c0] w fun e w' => e = .returned (.tuple #[.string r1, .bool r2]) ∧ Below w.heap.size w w' := by
 have hmf : ∀ (fn : Fn) (first cap : Array Value) (w : World), (Instr.makeFunc fn first cap).run Try.prog w = .ok (.func fn first cap) w := fun _ _ _ _ => rfl
 unfold impl_RowsSet.f at h
 obtain ⟨⟨list, ok⟩, h0, h⟩ := Option.bind_eq_some_iff.mp h
 obtain ⟨ms, h1, h⟩ := Option.bind_eq_some_iff.mp h
 obtain ⟨size, h2, h⟩ := Option.bind_eq_some_iff.mp h
 simp only at h h1
 have C := impl_rowsOf.calls k A0 c0 l0 list ok w hr0 hc0 h0
 have H1 := Aside0.mk h1; have H2 := Aside0.mk h2
 clear h0 h1 h2 hr0 hc0
 cases ok with
 | false =>
  simp only [Bool.false_eq_true, if_false, Option.some.injEq, Prod.mk.injEq] at h
  obtain ⟨rfl, rfl⟩ := h
  go_enter Try.func15, Try.ntmps15
  go_wp2_with (first | (go_at_call 44; refine C.mono ?_; rintro e w1 ⟨v0, rfl, ho, hb⟩; obtain ⟨A, c, rfl, hcl, hk⟩ := Kd.R_reads ho; have BL2 := Aside0.mk (blk_new w1 (.cells #[.slice A list.length c] 72 (0, 0))); have HB2 := Aside0.mk (below_alloc hb (.cells #[.slice A list.length c] 72 (0, 0))); have HK2 := Aside0.mk (Kd.C_alloc hk (.cells #[.slice A list.length c] 72 (0, 0))); have a2 := blk_cell BL2.out 0; clear ho hb hk) | (go_at_call 46; refine (impl_moving.calls A c list ms _ HK2.out H1.out).mono ?_; rintro e w3 ⟨A3, c3, rfl, hk3, hl3, hd⟩; have BL3 := Aside0.mk (blk_below BL2.out hd); have HB3 := Aside0.mk (below_step HB2.out hd); have HK3 := Aside0.mk (Kd.C_below HK2.out hd); have HM3 := Aside0.mk hk3; have HL3 := Aside0.mk hl3; clear hd hk3 hl3 a2) | (go_at_call 45; refine (impl_again.calls k A3 c3 ms _ _ HM3.out HL3.out H2.out).mono ?_; rintro e w4 ⟨rfl, hd⟩; have BL4 := Aside0.mk (blk_below BL3.out hd); have HB4 := Aside0.mk (below_step HB3.out hd); have HK4 := Aside0.mk (Kd.C_below HK3.out hd); clear hd; have a4 := blk_cell BL4.out 0))
  go_ret2
  exact ⟨rfl, HB4.out⟩
 | true =>
  simp only [if_true] at h
  by_cases hz : size = 0
  ·rw [if_pos hz] at h
   simp only [Option.some.injEq, Prod.mk.injEq] at h
   obtain ⟨rfl, rfl⟩ := h
   subst hz
   go_enter Try.func15, Try.ntmps15
   go_wp2_with (first | (go_at_call 44; refine C.mono ?_; rintro e w1 ⟨v0, rfl, ho, hb⟩; obtain ⟨A, c, rfl, hcl, hk⟩ := Kd.R_reads ho; have BL2 := Aside0.mk (blk_new w1 (.cells #[.slice A list.length c] 72 (0, 0))); have HB2 := Aside0.mk (below_alloc hb (.cells #[.slice A list.length c] 72 (0, 0))); have HK2 := Aside0.mk (Kd.C_alloc hk (.cells #[.slice A list.length c] 72 (0, 0))); have a2 := blk_cell BL2.out 0; clear ho hb hk) | (go_at_call 46; refine (impl_moving.calls A c list ms _ HK2.out H1.out).mono ?_; rintro e w3 ⟨A3, c3, rfl, hk3, hl3, hd⟩; have BL3 := Aside0.mk (blk_below BL2.out hd); have HB3 := Aside0.mk (below_step HB2.out hd); have HK3 := Aside0.mk (Kd.C_below HK2.out hd); have HM3 := Aside0.mk hk3; have HL3 := Aside0.mk hl3; clear hd hk3 hl3 a2) | (go_at_call 45; refine (impl_again.calls k A3 c3 ms _ _ HM3.out HL3.out H2.out).mono ?_; rintro e w4 ⟨rfl, hd⟩; have BL4 := Aside0.mk (blk_below BL3.out hd); have HB4 := Aside0.mk (below_step HB3.out hd); have HK4 := Aside0.mk (Kd.C_below HK3.out hd); clear hd; have a4 := blk_cell BL4.out 0))
   go_ret2
   exact ⟨rfl, HB4.out⟩
  ·rw [if_neg hz] at h
   split at h
   case isFalse => cases h
   rename_i hs
   have H := Aside0.mk h
   have hzb : (size == 0) = false := beq_eq_false_iff_ne.mpr hz
   clear h hz
   go_enter Try.func15, Try.ntmps15
   go_wp2_with (first | (go_at_call 44; refine C.mono ?_; rintro e w1 ⟨v0, rfl, ho, hb⟩; obtain ⟨A, c, rfl, hcl, hk⟩ := Kd.R_reads ho; have BL2 := Aside0.mk (blk_new w1 (.cells #[.slice A list.length c] 72 (0, 0))); have HB2 := Aside0.mk (below_alloc hb (.cells #[.slice A list.length c] 72 (0, 0))); have HK2 := Aside0.mk (Kd.C_alloc hk (.cells #[.slice A list.length c] 72 (0, 0))); have a2 := blk_cell BL2.out 0; clear ho hb hk) | (go_at_call 46; refine (impl_moving.calls A c list ms _ HK2.out H1.out).mono ?_; rintro e w3 ⟨A3, c3, rfl, hk3, hl3, hd⟩; have BL3 := Aside0.mk (blk_below BL2.out hd); have HB3 := Aside0.mk (below_step HB2.out hd); have HK3 := Aside0.mk (Kd.C_below HK2.out hd); have HM3 := Aside0.mk hk3; have HL3 := Aside0.mk hl3; clear hd hk3 hl3 a2) | (go_at_call 45; refine (impl_again.calls k A3 c3 ms _ _ HM3.out HL3.out H2.out).mono ?_; rintro e w4 ⟨rfl, hd⟩; have BL4 := Aside0.mk (blk_below BL3.out hd); have HB4 := Aside0.mk (below_step HB3.out hd); have HK4 := Aside0.mk (Kd.C_below HK3.out hd); clear hd; have a4 := blk_cell BL4.out 0) | (go_at_call 36; refine (impl_made.calls k 60 size (impl_RowsSet.p list) 47 #[.pointer (some ⟨w1.heap.size, 0, none⟩)] r1 r2 _ (fun args_ w_ => enters_ Try.func47 (by kernel_rfl) rfl args_ w_) ?hpx H.out).mono ?_; (case hpx => intro n_ b_ W_ hW_ hb_; exact impl_RowsSet.lit w1.heap.size A c list n_ b_ W_ (blk_below BL4.out hW_) (Kd.C_below HK4.out hW_) hs hb_); rintro e w5 ⟨rfl, hd⟩; have HB5 := Aside0.mk (below_step HB4.out hd); clear hd))
   go_ret2
   exact ⟨rfl, HB5.out⟩

mutual
def laws_FnRowsOf.j0 : Nat → ByteArray → List (List Int) → Bool → Bool → Option (Bool)
 | 0, _, _, _, _ => none
 | k + 1, x3, x4, x5, x8 => if x8 = true then (laws_FnRowsOf.j1 k x3 x4 x8 (!x5)) else (laws_FnRowsOf.j1 k x3 x4 x8 true)
def laws_FnRowsOf.j1 : Nat → ByteArray → List (List Int) → Bool → Bool → Option (Bool)
 | 0, _, _, _, _ => none
 | k + 1, x3, x4, x8, x44 => if x44 = true then (some x8) else ((impl_RowsSet.f k x4).bind fun bt679 => ((impl_SetTidy.f k x3).bind fun bt681 => (laws_FnRowsOf.l0 k x4 bt679.1 bt679.2 bt681.1 bt681.2 0)))
def laws_FnRowsOf.l0 : Nat → List (List Int) → ByteArray → Bool → ByteArray → Bool → Int → Option (Bool)
 | 0, _, _, _, _, _, _ => none
 | k + 1, x4, x9, x10, x11, x12, x13 => if x13 ≤ 100 then ((impl_RowsHas.f k x4 x13).bind fun bt683 => (if bt683.1 > 1 then (some false) else (laws_FnRowsOf.l0 k x4 x9 x10 x11 x12 (wrap64 (x13 + 1))))) else (if x10 = true then (if x12 = true then (some (x9.toList == x11.toList)) else (some false)) else (some false))
end
def laws_FnRowsOf.f (k : Nat) (l0 : List Int) : Option (Bool) := if (l0.length : Int) > 1048576 then (some true) else ((spec_DrawRowsOf.f k l0).bind fun t669 => ((impl_RowsOf.f k t669).bind fun bt670 => ((spec_RowsOf.f k t669).bind fun bt674 => ((laws_sameRows.f k bt670.1 bt674.1).bind fun t678 => (if t678 = true then (laws_FnRowsOf.j0 k t669 bt670.1 bt670.2 (bt670.2 == bt674.2)) else (laws_FnRowsOf.j0 k t669 bt670.1 bt670.2 false))))))
theorem laws_FnRowsOf.mono_l : ∀ k, (∀ y0 y1 y2 y3, LeO (laws_FnRowsOf.j0 k y0 y1 y2 y3) (laws_FnRowsOf.j0 (k + 1) y0 y1 y2 y3)) ∧ (∀ y0 y1 y2 y3, LeO (laws_FnRowsOf.j1 k y0 y1 y2 y3) (laws_FnRowsOf.j1 (k + 1) y0 y1 y2 y3)) ∧ (∀ y0 y1 y2 y3 y4 y5, LeO (laws_FnRowsOf.l0 k y0 y1 y2 y3 y4 y5) (laws_FnRowsOf.l0 (k + 1) y0 y1 y2 y3 y4 y5))
 | 0 => ⟨fun _ _ _ _ r h => by simp [laws_FnRowsOf.j0] at h, fun _ _ _ _ r h => by simp [laws_FnRowsOf.j1] at h, fun _ _ _ _ _ _ r h => by simp [laws_FnRowsOf.l0] at h⟩
 | k + 1 => by
  obtain ⟨ih0, ih1, ih2⟩ := laws_FnRowsOf.mono_l k
  refine ⟨?_, ?_, ?_⟩
  ·intro y0 y1 y2 y3
   unfold laws_FnRowsOf.j0
   repeat' first
   |(with_reducible exact ih0 _ _ _ _)
   |(with_reducible exact ih1 _ _ _ _)
   |(with_reducible exact ih2 _ _ _ _ _ _)
   |(with_reducible exact impl_RowsHas.mono _ _ _)
   |(with_reducible exact impl_RowsOf.mono _ _)
   |(with_reducible exact impl_RowsSet.mono _ _)
   |(with_reducible exact impl_SetTidy.mono _ _)
   |(with_reducible exact laws_sameRows.mono _ _ _)
   |(with_reducible exact spec_DrawRowsOf.mono _ _)
   |(with_reducible exact spec_RowsOf.mono _ _)
   |(with_reducible exact LeO.refl _)
   |(with_reducible exact LeO.none _)
   |(with_reducible refine LeO.ite ?_ ?_)
   |(with_reducible refine LeO.bind ?_ (fun _ => ?_))
   |exact ih0 _ _ _ _
   |exact ih1 _ _ _ _
   |exact ih2 _ _ _ _ _ _
   |exact impl_RowsHas.mono _ _ _
   |exact impl_RowsOf.mono _ _
   |exact impl_RowsSet.mono _ _
   |exact impl_SetTidy.mono _ _
   |exact laws_sameRows.mono _ _ _
   |exact spec_DrawRowsOf.mono _ _
   |exact spec_RowsOf.mono _ _
   |exact LeO.none _
   |refine LeO.ite ?_ ?_
   |refine LeO.bind ?_ (fun _ => ?_)
  ·intro y0 y1 y2 y3
   unfold laws_FnRowsOf.j1
   repeat' first
   |(with_reducible exact ih0 _ _ _ _)
   |(with_reducible exact ih1 _ _ _ _)
   |(with_reducible exact ih2 _ _ _ _ _ _)
   |(with_reducible exact impl_RowsHas.mono _ _ _)
   |(with_reducible exact impl_RowsOf.mono _ _)
   |(with_reducible exact impl_RowsSet.mono _ _)
   |(with_reducible exact impl_SetTidy.mono _ _)
   |(with_reducible exact laws_sameRows.mono _ _ _)
   |(with_reducible exact spec_DrawRowsOf.mono _ _)
   |(with_reducible exact spec_RowsOf.mono _ _)
   |(with_reducible exact LeO.refl _)
   |(with_reducible exact LeO.none _)
   |(with_reducible refine LeO.ite ?_ ?_)
   |(with_reducible refine LeO.bind ?_ (fun _ => ?_))
   |exact ih0 _ _ _ _
   |exact ih1 _ _ _ _
   |exact ih2 _ _ _ _ _ _
   |exact impl_RowsHas.mono _ _ _
   |exact impl_RowsOf.mono _ _
   |exact impl_RowsSet.mono _ _
   |exact impl_SetTidy.mono _ _
   |exact laws_sameRows.mono _ _ _
   |exact spec_DrawRowsOf.mono _ _
   |exact spec_RowsOf.mono _ _
   |exact LeO.none _
   |refine LeO.ite ?_ ?_
   |refine LeO.bind ?_ (fun _ => ?_)
  ·intro y0 y1 y2 y3 y4 y5
   unfold laws_FnRowsOf.l0
   repeat' first
   |(with_reducible exact ih0 _ _ _ _)
   |(with_reducible exact ih1 _ _ _ _)
   |(with_reducible exact ih2 _ _ _ _ _ _)
   |(with_reducible exact impl_RowsHas.mono _ _ _)
   |(with_reducible exact impl_RowsOf.mono _ _)
   |(with_reducible exact impl_RowsSet.mono _ _)
   |(with_reducible exact impl_SetTidy.mono _ _)
   |(with_reducible exact laws_sameRows.mono _ _ _)
   |(with_reducible exact spec_DrawRowsOf.mono _ _)
   |(with_reducible exact spec_RowsOf.mono _ _)
   |(with_reducible exact LeO.refl _)
   |(with_reducible exact LeO.none _)
   |(with_reducible refine LeO.ite ?_ ?_)
   |(with_reducible refine LeO.bind ?_ (fun _ => ?_))
   |exact ih0 _ _ _ _
   |exact ih1 _ _ _ _
   |exact ih2 _ _ _ _ _ _
   |exact impl_RowsHas.mono _ _ _
   |exact impl_RowsOf.mono _ _
   |exact impl_RowsSet.mono _ _
   |exact impl_SetTidy.mono _ _
   |exact laws_sameRows.mono _ _ _
   |exact spec_DrawRowsOf.mono _ _
   |exact spec_RowsOf.mono _ _
   |exact LeO.none _
   |refine LeO.ite ?_ ?_
   |refine LeO.bind ?_ (fun _ => ?_)
theorem laws_FnRowsOf.mono : ∀ a0 k, LeO (laws_FnRowsOf.f k a0) (laws_FnRowsOf.f (k + 1) a0) := by
 intro a0 k
 obtain ⟨ih0, ih1, ih2⟩ := laws_FnRowsOf.mono_l k
 unfold laws_FnRowsOf.f
 repeat' first
   |(with_reducible exact ih0 _ _ _ _)
   |(with_reducible exact ih1 _ _ _ _)
   |(with_reducible exact ih2 _ _ _ _ _ _)
   |(with_reducible exact impl_RowsHas.mono _ _ _)
   |(with_reducible exact impl_RowsOf.mono _ _)
   |(with_reducible exact impl_RowsSet.mono _ _)
   |(with_reducible exact impl_SetTidy.mono _ _)
   |(with_reducible exact laws_sameRows.mono _ _ _)
   |(with_reducible exact spec_DrawRowsOf.mono _ _)
   |(with_reducible exact spec_RowsOf.mono _ _)
   |(with_reducible exact LeO.refl _)
   |(with_reducible exact LeO.none _)
   |(with_reducible refine LeO.ite ?_ ?_)
   |(with_reducible refine LeO.bind ?_ (fun _ => ?_))
   |exact ih0 _ _ _ _
   |exact ih1 _ _ _ _
   |exact ih2 _ _ _ _ _ _
   |exact impl_RowsHas.mono _ _ _
   |exact impl_RowsOf.mono _ _
   |exact impl_RowsSet.mono _ _
   |exact impl_SetTidy.mono _ _
   |exact laws_sameRows.mono _ _ _
   |exact spec_DrawRowsOf.mono _ _
   |exact spec_RowsOf.mono _ _
   |exact LeO.none _
   |refine LeO.ite ?_ ?_
   |refine LeO.bind ?_ (fun _ => ?_)
set_option maxHeartbeats 8000000 in
set_option maxRecDepth 100000 in
theorem laws_FnRowsOf.calls (k : Nat) (A0 : Option Addr) (c0 : Nat) (l0 : List Int) (r : Bool) (w : World) (hr0 : Kd.C (Kd.int .u8) w A0 l0.length l0) (hc0 : l0.length ≤ c0) (h : laws_FnRowsOf.f k l0 = some r) :
  Calls Try.prog 5 #[.slice A0 l0.length c0] w fun e w' => e = .returned (.bool r) ∧ Below w.heap.size w w' := by
 have HR0 := Aside0.mk hr0
 have HC0 := Aside0.mk hc0
 clear hr0 hc0
 have HB := Aside0.mk (Below.refl w.heap.size w)
 have H : (if (l0.length : Int) > 1048576 then (some true) else ((spec_DrawRowsOf.f k l0).bind fun t669 => ((impl_RowsOf.f k t669).bind fun bt670 => ((spec_RowsOf.f k t669).bind fun bt674 => ((laws_sameRows.f k bt670.1 bt674.1).bind fun t678 => (if t678 = true then (laws_FnRowsOf.j0 k t669 bt670.1 bt670.2 (bt670.2 == bt674.2)) else (laws_FnRowsOf.j0 k t669 bt670.1 bt670.2 false))))))) = some r := h
 clear h
 by_cases c2 : (l0.length : Int) > 1048576
 ·rw [if_pos c2] at H
  have c2b0 : decide (1048576 < (l0.length : Int)) = true := decide_eq_true c2
  have c2b1 : decide (1048576 < l0.length) = true := decide_eq_true (by omega)
  clear c2
  obtain rfl := Option.some.inj H
  go_enter Try.func5, Try.ntmps5
  go_wp2
  go_ret
  exact ⟨by first | rfl | (simp [errW_none, errW_some] <;> rfl) | (simp [errW_none, errW_some]; exact ⟨rfl, rfl⟩) | (simp [errW_none, errW_some]; exact ⟨rfl, rfl, rfl⟩) | (simp [*, errW_none, errW_some] <;> rfl), by repeat (first | (with_reducible first | exact HB.out | apply below_alloc | apply pw_below_drewN | apply below_drew1) | exact HB.out)⟩
 ·rw [if_neg c2] at H
  have c2b0 : decide (1048576 < (l0.length : Int)) = false := decide_eq_false c2
  have c2b1 : decide (1048576 < l0.length) = false := decide_eq_false (by omega)
  clear c2
  replace H := Option.bind_eq_some_iff.mp H
  obtain ⟨t669, A30, H⟩ := H
  replace H : ((impl_RowsOf.f k t669).bind fun bt670 => ((spec_RowsOf.f k t669).bind fun bt674 => ((laws_sameRows.f k bt670.1 bt674.1).bind fun t678 => (if t678 = true then (laws_FnRowsOf.j0 k t669 bt670.1 bt670.2 (bt670.2 == bt674.2)) else (laws_FnRowsOf.j0 k t669 bt670.1 bt670.2 false))))) = some r := H
  have A3 := Aside0.mk A30
  clear A30
  replace H := Option.bind_eq_some_iff.mp H
  obtain ⟨⟨t670, t671⟩, A40, H⟩ := H
  replace H : ((spec_RowsOf.f k t669).bind fun bt674 => ((laws_sameRows.f k t670 bt674.1).bind fun t678 => (if t678 = true then (laws_FnRowsOf.j0 k t669 t670 t671 (t671 == bt674.2)) else (laws_FnRowsOf.j0 k t669 t670 t671 false)))) = some r := H
  have A4 := Aside0.mk A40
  clear A40
  replace H := Option.bind_eq_some_iff.mp H
  obtain ⟨⟨t674, t675⟩, A50, H⟩ := H
  replace H : ((laws_sameRows.f k t670 t674).bind fun t678 => (if t678 = true then (laws_FnRowsOf.j0 k t669 t670 t671 (t671 == t675)) else (laws_FnRowsOf.j0 k t669 t670 t671 false))) = some r := H
  have A5 := Aside0.mk A50
  clear A50
  have HC6 := Aside0.mk H
  clear H
  go_enter Try.func5, Try.ntmps5
  go_upto_region 6 with (first | ((with_reducible refine gate_callee (f := 19) rfl ?_); refine goesL_ (some 20) rfl rfl Try.func19 (by kernel_rfl) rfl #[.slice A0 l0.length c0] rfl (by (try simp only [List.map_toArray, List.map_cons, List.map_nil]); first | done | rfl | (simp only [List.length_drop, List.length_take]; rfl)) ?_; (with_reducible refine (spec_DrawRowsOf.calls k _ _ l0 t669 _ ?side1 ?side2 A3.out).mono ?_); (case side1 => repeat (first | exact HR0.out | (with_reducible refine Kd.C_alloc ?_ _) | (with_reducible refine Kd.C_drewN ?_ _) | (with_reducible refine Kd.C_drew ?_))); (case side2 => exact HC0.out); rintro e w7 ⟨rfl, hb⟩; refine ⟨_, rfl, ?_⟩; have n0_ := Aside0.mk (below_step (by repeat (first | (with_reducible first | exact HB.out | apply below_alloc | apply pw_below_drewN | apply below_drew1) | exact HB.out)) hb); clear HB; have HB := n0_; clear n0_; (try clear hb); (try clear hb2); (try clear hk); (try clear hi)) | ((with_reducible refine gate_callee (f := 20) rfl ?_); refine goesL_ (some 23) rfl rfl Try.func20 (by kernel_rfl) rfl #[.string t669] rfl (by (try simp only [List.map_toArray, List.map_cons, List.map_nil]); first | done | rfl | (simp only [List.length_drop, List.length_take]; rfl)) ?_; (with_reducible refine (impl_RowsOf.calls k t669 t670 t671 _ A4.out).mono ?_); rintro e w8 ⟨v672, rfl, ho0, hb⟩; refine ⟨_, rfl, ?_⟩; have n0_ := Aside0.mk (Kd.S_lower ho0 (below_size (by repeat (first | (with_reducible first | exact HB.out | apply below_alloc | apply pw_below_drewN | apply below_drew1) | exact HB.out)))); have n1_ := Aside0.mk (below_step (by repeat (first | (with_reducible first | exact HB.out | apply below_alloc | apply pw_below_drewN | apply below_drew1) | exact HB.out)) hb); clear HB; have HO673 := n0_; have HB := n1_; clear n0_ n1_; (try clear hb); (try clear hb2); (try clear hk); (try clear hi); (try clear ho0)) | ((with_reducible refine gate_callee (f := 21) rfl ?_); refine goesL_ (some 28) rfl rfl Try.func21 (by kernel_rfl) rfl #[.string t669] rfl (by (try simp only [List.map_toArray, List.map_cons, List.map_nil]); first | done | rfl | (simp only [List.length_drop, List.length_take]; rfl)) ?_; (with_reducible refine (spec_RowsOf.calls k t669 t674 t675 _ A5.out).mono ?_); rintro e w9 ⟨v676, rfl, ho0, hb⟩; refine ⟨_, rfl, ?_⟩; have n0_ := Aside0.mk (Kd.S_elder' (by (with_reducible repeat (first | apply Kd.S_alloc | apply Kd.S_drewN | apply Kd.S_drew)); exact HO673.out) (Kd.S_base ho0) hb); have n1_ := Aside0.mk (Kd.S_lower (Kd.S_new' ho0 (Kd.S_lt (by (with_reducible repeat (first | apply Kd.S_alloc | apply Kd.S_drewN | apply Kd.S_drew)); exact HO673.out))) (below_size (by repeat (first | (with_reducible first | exact HB.out | apply below_alloc | apply pw_below_drewN | apply below_drew1) | exact HB.out)))); have n2_ := Aside0.mk (below_step (by repeat (first | (with_reducible first | exact HB.out | apply below_alloc | apply pw_below_drewN | apply below_drew1) | exact HB.out)) hb); clear HO673; clear HB; have HO673 := n0_; have HO677 := n1_; have HB := n2_; clear n0_ n1_ n2_; (try clear hb); (try clear hb2); (try clear hk); (try clear hi); (try clear ho0)))
  (try simp only [Act.put, List.setIfInBounds_toArray, List.set_cons_zero, List.set_cons_succ])
  go_cut [8] (fun v8 wc => ∃ (kq : Nat) (x8_5 : Bool), v8 = .bool x8_5 ∧ Aside0 (laws_FnRowsOf.j0 kq t669 t670 t671 x8_5 = some r) ∧ Aside0 (kq ≤ k) ∧ Aside0 (Kd.S (Kd.slice 3 (Kd.int .i64)) 24 wc w.heap.size (fun _ => True) v672 t670) ∧ Aside0 (Below w.heap.size w wc))
  case first =>
   have H := HC6.out
   clear HC6
   replace H := Option.bind_eq_some_iff.mp H
   obtain ⟨t678, A100, H⟩ := H
   replace H : (if t678 = true then (laws_FnRowsOf.j0 k t669 t670 t671 (t671 == t675)) else (laws_FnRowsOf.j0 k t669 t670 t671 false)) = some r := H
   have A10 := Aside0.mk A100
   clear A100
   by_cases c11 : t678 = true
   ·subst c11
    have H1 : (laws_FnRowsOf.j0 k t669 t670 t671 (t671 == t675)) = some r := by rw [if_pos rfl] at H; exact H
    clear H
    have H := H1
    clear H1
    have H' := Aside0.mk H
    clear H
    obtain ⟨Ao12, co12, eo12⟩ := Kd.S_slice HO673.out
    subst eo12
    obtain ⟨Ao13, co13, eo13⟩ := Kd.S_slice HO677.out
    subst eo13
    go_wp2_with (first | ((with_reducible refine gate_callee (f := 22) rfl ?_); refine goesL_ (some 33) rfl rfl Try.func22 (by kernel_rfl) rfl #[.slice Ao12 t670.length co12, .slice Ao13 t674.length co13] rfl (by (try simp only [List.map_toArray, List.map_cons, List.map_nil]); first | done | rfl | (simp only [List.length_drop, List.length_take]; rfl)) ?_; (with_reducible refine (laws_sameRows.calls k _ _ t670 _ _ t674 true _ ?side1 ?side2 ?side3 ?side4 A10.out).mono ?_); (case side1 => repeat (first | exact (Kd.S_reads' HO673.out).2.2 | (with_reducible refine Kd.C_alloc ?_ _) | (with_reducible refine Kd.C_drewN ?_ _) | (with_reducible refine Kd.C_drew ?_))); (case side2 => exact (Kd.S_reads' HO673.out).2.1); (case side3 => repeat (first | exact (Kd.S_reads' HO677.out).2.2 | (with_reducible refine Kd.C_alloc ?_ _) | (with_reducible refine Kd.C_drewN ?_ _) | (with_reducible refine Kd.C_drew ?_))); (case side4 => exact (Kd.S_reads' HO677.out).2.1); rintro e w' ⟨rfl, ⟨nd, rfl⟩⟩; refine ⟨_, rfl, ?_⟩))
    go_meet
    case rel => exact ⟨_, ((t671 == t675)), (by first | rfl | (simp; done) | (simp [*]; done) | (simp [Int.tmod_eq_emod_of_nonneg]; done)), H', ⟨by first | omega | exact Nat.le_refl _⟩, ⟨by (with_reducible repeat (first | apply Kd.S_alloc | apply Kd.S_drewN | apply Kd.S_drew)); exact Kd.S_mono HO673.out (fun _ hk => trivial)⟩, ⟨by repeat (first | (with_reducible first | exact HB.out | apply below_alloc | apply pw_below_drewN | apply below_drew1) | exact HB.out)⟩⟩
   ·replace c11 := Bool.eq_false_iff.mpr c11
    subst c11
    have H1 : (laws_FnRowsOf.j0 k t669 t670 t671 false) = some r := by rw [if_neg (show ¬ (false = true) by decide)] at H; exact H
    clear H
    have H := H1
    clear H1
    have H' := Aside0.mk H
    clear H
    obtain ⟨Ao14, co14, eo14⟩ := Kd.S_slice HO673.out
    subst eo14
    obtain ⟨Ao15, co15, eo15⟩ := Kd.S_slice HO677.out
    subst eo15
    go_wp2_with (first | ((with_reducible refine gate_callee (f := 22) rfl ?_); refine goesL_ (some 33) rfl rfl Try.func22 (by kernel_rfl) rfl #[.slice Ao14 t670.length co14, .slice Ao15 t674.length co15] rfl (by (try simp only [List.map_toArray, List.map_cons, List.map_nil]); first | done | rfl | (simp only [List.length_drop, List.length_take]; rfl)) ?_; (with_reducible refine (laws_sameRows.calls k _ _ t670 _ _ t674 false _ ?side1 ?side2 ?side3 ?side4 A10.out).mono ?_); (case side1 => repeat (first | exact (Kd.S_reads' HO673.out).2.2 | (with_reducible refine Kd.C_alloc ?_ _) | (with_reducible refine Kd.C_drewN ?_ _) | (with_reducible refine Kd.C_drew ?_))); (case side2 => exact (Kd.S_reads' HO673.out).2.1); (case side3 => repeat (first | exact (Kd.S_reads' HO677.out).2.2 | (with_reducible refine Kd.C_alloc ?_ _) | (with_reducible refine Kd.C_drewN ?_ _) | (with_reducible refine Kd.C_drew ?_))); (case side4 => exact (Kd.S_reads' HO677.out).2.1); rintro e w' ⟨rfl, ⟨nd, rfl⟩⟩; refine ⟨_, rfl, ?_⟩))
    go_meet
    case rel => exact ⟨_, (false), (by first | rfl | (simp; done) | (simp [*]; done) | (simp [Int.tmod_eq_emod_of_nonneg]; done)), H', ⟨by first | omega | exact Nat.le_refl _⟩, ⟨by (with_reducible repeat (first | apply Kd.S_alloc | apply Kd.S_drewN | apply Kd.S_drew)); exact Kd.S_mono HO673.out (fun _ hk => trivial)⟩, ⟨by repeat (first | (with_reducible first | exact HB.out | apply below_alloc | apply pw_below_drewN | apply below_drew1) | exact HB.out)⟩⟩
  case rest =>
   clear HC6
   try clear c1
   try clear c2
   try clear c2b0
   try clear c2b1
   try clear p2
   try clear c5
   try clear c11
   obtain ⟨kq, x8_5, rfl, HA, HJ5, HO_4, HB⟩ := hcut
   cases kq with
   | zero => exact absurd HA.out (by simp [laws_FnRowsOf.j0])
   | succ kj5 =>
    have H := HA.out
    clear HA
    simp only [laws_FnRowsOf.j0] at H
    have HC16 := Aside0.mk H
    clear H
    go_upto_region 7 with (fail)
    go_cut [44] (fun v44 wc => ∃ (kq : Nat) (x44_15 : Bool), v44 = .bool x44_15 ∧ Aside0 (laws_FnRowsOf.j1 kq t669 t670 x8_5 x44_15 = some r) ∧ Aside0 (kq ≤ kj5) ∧ Aside0 (Kd.S (Kd.slice 3 (Kd.int .i64)) 24 wc w.heap.size (fun _ => True) v672 t670) ∧ Aside0 (Below w.heap.size w wc))
    case first =>
     have H := HC16.out
     clear HC16
     by_cases c17 : x8_5 = true
     ·subst c17
      have H1 : (laws_FnRowsOf.j1 kj5 t669 t670 true (!t671)) = some r := by rw [if_pos rfl] at H; exact H
      clear H
      have H := H1
      clear H1
      have H' := Aside0.mk H
      clear H
      go_wp2
      go_meet
      case rel => exact ⟨_, (!t671), (by first | rfl | (simp; done) | (simp [*]; done) | (simp [Int.tmod_eq_emod_of_nonneg]; done)), H', ⟨by have := HJ5.out; first | omega | exact Nat.le_refl _⟩, ⟨by (with_reducible repeat (first | apply Kd.S_alloc | apply Kd.S_drewN | apply Kd.S_drew)); exact HO_4.out⟩, ⟨by repeat (first | (with_reducible first | exact HB.out | apply below_alloc | apply pw_below_drewN | apply below_drew1) | exact HB.out)⟩⟩
     ·replace c17 := Bool.eq_false_iff.mpr c17
      subst c17
      have H1 : (laws_FnRowsOf.j1 kj5 t669 t670 false true) = some r := by rw [if_neg (show ¬ (false = true) by decide)] at H; exact H
      clear H
      have H := H1
      clear H1
      have H' := Aside0.mk H
      clear H
      go_wp2
      go_meet
      case rel => exact ⟨_, (true), (by first | rfl | (simp; done) | (simp [*]; done) | (simp [Int.tmod_eq_emod_of_nonneg]; done)), H', ⟨by have := HJ5.out; first | omega | exact Nat.le_refl _⟩, ⟨by (with_reducible repeat (first | apply Kd.S_alloc | apply Kd.S_drewN | apply Kd.S_drew)); exact HO_4.out⟩, ⟨by repeat (first | (with_reducible first | exact HB.out | apply below_alloc | apply pw_below_drewN | apply below_drew1) | exact HB.out)⟩⟩
    case rest =>
     clear HC16
     try clear c1
     try clear c2
     try clear c2b0
     try clear c2b1
     try clear p2
     try clear c5
     try clear c11
     try clear c17
     try clear p2
     obtain ⟨kq, x44_15, rfl, HA, HJ15, HO_4, HB⟩ := hcut
     cases kq with
     | zero => exact absurd HA.out (by simp [laws_FnRowsOf.j1])
     | succ kj15 =>
      have H := HA.out
      clear HA
      simp only [laws_FnRowsOf.j1] at H
      by_cases c18 : x44_15 = true
      ·subst c18
       have H1 : (some x8_5) = some r := by rw [if_pos rfl] at H; exact H
       clear H
       have H := H1
       clear H1
       obtain rfl := Option.some.inj H
       go_wp2
       go_ret
       exact ⟨by first | rfl | (simp [errW_none, errW_some] <;> rfl) | (simp [errW_none, errW_some]; exact ⟨rfl, rfl⟩) | (simp [errW_none, errW_some]; exact ⟨rfl, rfl, rfl⟩) | (simp [*, errW_none, errW_some] <;> rfl), by repeat (first | (with_reducible first | exact HB.out | apply below_alloc | apply pw_below_drewN | apply below_drew1) | exact HB.out)⟩
      ·replace c18 := Bool.eq_false_iff.mpr c18
       subst c18
       have H1 : ((impl_RowsSet.f kj15 t670).bind fun bt679 => ((impl_SetTidy.f kj15 t669).bind fun bt681 => (laws_FnRowsOf.l0 kj15 t670 bt679.1 bt679.2 bt681.1 bt681.2 0))) = some r := by rw [if_neg (show ¬ (false = true) by decide)] at H; exact H
       clear H
       have H := H1
       clear H1
       replace H := Option.bind_eq_some_iff.mp H
       obtain ⟨⟨t679, t680⟩, A190, H⟩ := H
       replace H : ((impl_SetTidy.f kj15 t669).bind fun bt681 => (laws_FnRowsOf.l0 kj15 t670 t679 t680 bt681.1 bt681.2 0)) = some r := H
       have A19 := Aside0.mk A190
       clear A190
       replace H := Option.bind_eq_some_iff.mp H
       obtain ⟨⟨t681, t682⟩, A200, H⟩ := H
       replace H : (laws_FnRowsOf.l0 kj15 t670 t679 t680 t681 t682 0) = some r := H
       have A20 := Aside0.mk A200
       clear A200
       have H' := Aside0.mk H
       clear H
       obtain ⟨Ao21, co21, eo21⟩ := Kd.S_slice HO_4.out
       subst eo21
       go_wp2_with (first | ((with_reducible refine gate_callee (f := 15) rfl ?_); refine goesL_ (some 48) rfl rfl Try.func15 (by kernel_rfl) rfl #[.slice Ao21 t670.length co21] rfl (by (try simp only [List.map_toArray, List.map_cons, List.map_nil]); first | done | rfl | (simp only [List.length_drop, List.length_take]; rfl)) ?_; (with_reducible refine (impl_RowsSet.calls kj15 _ _ t670 t679 t680 _ ?side1 ?side2 A19.out).mono ?_); (case side1 => repeat (first | exact (Kd.S_reads' HO_4.out).2.2 | (with_reducible refine Kd.C_alloc ?_ _) | (with_reducible refine Kd.C_drewN ?_ _) | (with_reducible refine Kd.C_drew ?_))); (case side2 => exact (Kd.S_reads' HO_4.out).2.1); rintro e w22 ⟨rfl, hb⟩; refine ⟨_, rfl, ?_⟩; have n0_ := Aside0.mk (Kd.S_below (by (with_reducible repeat (first | apply Kd.S_alloc | apply Kd.S_drewN | apply Kd.S_drew)); exact HO_4.out) hb); have n1_ := Aside0.mk (below_step (by repeat (first | (with_reducible first | exact HB.out | apply below_alloc | apply pw_below_drewN | apply below_drew1) | exact HB.out)) hb); clear HO_4; clear HB; have HO_4 := n0_; have HB := n1_; clear n0_ n1_; (try clear hb); (try clear hb2); (try clear hk); (try clear hi)) | ((with_reducible refine gate_callee (f := 11) rfl ?_); refine goesL_ (some 53) rfl rfl Try.func11 (by kernel_rfl) rfl #[.string t669] rfl (by (try simp only [List.map_toArray, List.map_cons, List.map_nil]); first | done | rfl | (simp only [List.length_drop, List.length_take]; rfl)) ?_; (with_reducible refine (impl_SetTidy.calls kj15 t669 t681 t682 _ A20.out).mono ?_); rintro e w23 ⟨rfl, hb⟩; refine ⟨_, rfl, ?_⟩; have n0_ := Aside0.mk (Kd.S_below (by (with_reducible repeat (first | apply Kd.S_alloc | apply Kd.S_drewN | apply Kd.S_drew)); exact HO_4.out) hb); have n1_ := Aside0.mk (below_step (by repeat (first | (with_reducible first | exact HB.out | apply below_alloc | apply pw_below_drewN | apply below_drew1) | exact HB.out)) hb); clear HO_4; clear HB; have HO_4 := n0_; have HB := n1_; clear n0_ n1_; (try clear hb); (try clear hb2); (try clear hk); (try clear hi)))
       go_loopg [13] kj15 (fun kq v13 w' => ∃ (x13_3 : Int), v13 = .int .i64 x13_3 ∧ Aside0 (laws_FnRowsOf.l0 kq t670 t679 t680 t681 t682 x13_3 = some r) ∧ Aside0 (kq ≤ kj15) ∧ Aside0 (Kd.S (Kd.slice 3 (Kd.int .i64)) 24 w' w.heap.size (fun _ => True) (.slice Ao21 t670.length co21) t670) ∧ Aside0 (Below w.heap.size w w'))
       case atStart => exact ⟨(0), (by first | rfl | (simp; done) | (simp [*]; done) | (simp [Int.tmod_eq_emod_of_nonneg]; done)), H', ⟨Nat.le_refl _⟩, ⟨by (with_reducible repeat (first | apply Kd.S_alloc | apply Kd.S_drewN | apply Kd.S_drew)); exact HO_4.out⟩, ⟨by repeat (first | (with_reducible first | exact HB.out | apply below_alloc | apply pw_below_drewN | apply below_drew1) | exact HB.out)⟩⟩
       case round =>
        clear H'
        try clear c1
        try clear c2
        try clear c2b0
        try clear c2b1
        try clear p2
        try clear c5
        try clear c11
        try clear c15
        try clear c17
        try clear c18
        try clear c19
        try clear c20
        try clear c21
        try clear c22
        try clear p2
        obtain ⟨x13_3, rfl, HA, HK3, HO_4, HB⟩ := hrel
        cases gk with
        | zero => exact absurd HA.out (by simp [laws_FnRowsOf.l0])
        | succ k3 =>
         have H := HA.out
         clear HA
         simp only [laws_FnRowsOf.l0] at H
         by_cases c24 : x13_3 ≤ 100
         ·rw [if_pos c24] at H
          have c24b0 : decide (x13_3 ≤ 100) = true := decide_eq_true c24
          clear c24
          replace H := Option.bind_eq_some_iff.mp H
          obtain ⟨⟨t683, t684⟩, A250, H⟩ := H
          replace H : (if t683 > 1 then (some false) else (laws_FnRowsOf.l0 k3 t670 t679 t680 t681 t682 (wrap64 (x13_3 + 1)))) = some r := H
          have A25 := Aside0.mk A250
          clear A250
          by_cases c26 : t683 > 1
          ·rw [if_pos c26] at H
           have c26b0 : decide (1 < t683) = true := decide_eq_true c26
           clear c26
           obtain rfl := Option.some.inj H
           go_wp2_with (first | ((with_reducible refine gate_callee (f := 17) rfl ?_); refine goesL_ (some 63) rfl rfl Try.func17 (by kernel_rfl) rfl #[.slice Ao21 t670.length co21, .int .i64 x13_3] rfl (by (try simp only [List.map_toArray, List.map_cons, List.map_nil]); first | done | rfl | (simp only [List.length_drop, List.length_take]; rfl)) ?_; (with_reducible refine (impl_RowsHas.calls k3 _ _ t670 x13_3 t683 t684 _ ?side1 ?side2 A25.out).mono ?_); (case side1 => repeat (first | exact (Kd.S_reads' HO_4.out).2.2 | (with_reducible refine Kd.C_alloc ?_ _) | (with_reducible refine Kd.C_drewN ?_ _) | (with_reducible refine Kd.C_drew ?_))); (case side2 => exact (Kd.S_reads' HO_4.out).2.1); rintro e w27 ⟨rfl, hb⟩; refine ⟨_, rfl, ?_⟩; have n0_ := Aside0.mk (Kd.S_below (by (with_reducible repeat (first | apply Kd.S_alloc | apply Kd.S_drewN | apply Kd.S_drew)); exact HO_4.out) hb); have n1_ := Aside0.mk (below_step (by repeat (first | (with_reducible first | exact HB.out | apply below_alloc | apply pw_below_drewN | apply below_drew1) | exact HB.out)) hb); clear HO_4; clear HB; have HO_4 := n0_; have HB := n1_; clear n0_ n1_; (try clear hb); (try clear hb2); (try clear hk); (try clear hi)))
           go_ret
           exact ⟨by first | rfl | (simp [errW_none, errW_some] <;> rfl) | (simp [errW_none, errW_some]; exact ⟨rfl, rfl⟩) | (simp [errW_none, errW_some]; exact ⟨rfl, rfl, rfl⟩) | (simp [*, errW_none, errW_some] <;> rfl), by repeat (first | (with_reducible first | exact HB.out | apply below_alloc | apply pw_below_drewN | apply below_drew1) | exact HB.out)⟩
          ·rw [if_neg c26] at H
           have c26b0 : decide (1 < t683) = false := decide_eq_false c26
           clear c26
           have H' := Aside0.mk H
           clear H
           go_wp2_with (first | ((with_reducible refine gate_callee (f := 17) rfl ?_); refine goesL_ (some 63) rfl rfl Try.func17 (by kernel_rfl) rfl #[.slice Ao21 t670.length co21, .int .i64 x13_3] rfl (by (try simp only [List.map_toArray, List.map_cons, List.map_nil]); first | done | rfl | (simp only [List.length_drop, List.length_take]; rfl)) ?_; (with_reducible refine (impl_RowsHas.calls k3 _ _ t670 x13_3 t683 t684 _ ?side1 ?side2 A25.out).mono ?_); (case side1 => repeat (first | exact (Kd.S_reads' HO_4.out).2.2 | (with_reducible refine Kd.C_alloc ?_ _) | (with_reducible refine Kd.C_drewN ?_ _) | (with_reducible refine Kd.C_drew ?_))); (case side2 => exact (Kd.S_reads' HO_4.out).2.1); rintro e w28 ⟨rfl, hb⟩; refine ⟨_, rfl, ?_⟩; have n0_ := Aside0.mk (Kd.S_below (by (with_reducible repeat (first | apply Kd.S_alloc | apply Kd.S_drewN | apply Kd.S_drew)); exact HO_4.out) hb); have n1_ := Aside0.mk (below_step (by repeat (first | (with_reducible first | exact HB.out | apply below_alloc | apply pw_below_drewN | apply below_drew1) | exact HB.out)) hb); clear HO_4; clear HB; have HO_4 := n0_; have HB := n1_; clear n0_ n1_; (try clear hb); (try clear hb2); (try clear hk); (try clear hi)))
           go_roundg k3
           case measure => have := HJ5.out; have := HJ15.out; have := HK3.out; omega
           case rel => exact ⟨(wrap64 (x13_3 + 1)), (by first | rfl | (simp; done) | (simp [*]; done) | (simp [Int.tmod_eq_emod_of_nonneg]; done)), H', ⟨by have := HJ5.out; have := HJ15.out; have := HK3.out; omega⟩, ⟨by (with_reducible repeat (first | apply Kd.S_alloc | apply Kd.S_drewN | apply Kd.S_drew)); exact HO_4.out⟩, ⟨by repeat (first | (with_reducible first | exact HB.out | apply below_alloc | apply pw_below_drewN | apply below_drew1) | exact HB.out)⟩⟩
         ·rw [if_neg c24] at H
          have c24b0 : decide (x13_3 ≤ 100) = false := decide_eq_false c24
          clear c24
          by_cases c29 : t680 = true
          ·subst c29
           have H1 : (if t682 = true then (some (t679.toList == t681.toList)) else (some false)) = some r := by rw [if_pos rfl] at H; exact H
           clear H
           have H := H1
           clear H1
           by_cases c30 : t682 = true
           ·subst c30
            have H1 : (some (t679.toList == t681.toList)) = some r := by rw [if_pos rfl] at H; exact H
            clear H
            have H := H1
            clear H1
            obtain rfl := Option.some.inj H
            go_wp2
            go_ret
            exact ⟨by first | rfl | (simp [errW_none, errW_some] <;> rfl) | (simp [errW_none, errW_some]; exact ⟨rfl, rfl⟩) | (simp [errW_none, errW_some]; exact ⟨rfl, rfl, rfl⟩) | (simp [*, errW_none, errW_some] <;> rfl), by repeat (first | (with_reducible first | exact HB.out | apply below_alloc | apply pw_below_drewN | apply below_drew1) | exact HB.out)⟩
           ·replace c30 := Bool.eq_false_iff.mpr c30
            subst c30
            have H1 : (some false) = some r := by rw [if_neg (show ¬ (false = true) by decide)] at H; exact H
            clear H
            have H := H1
            clear H1
            obtain rfl := Option.some.inj H
            go_wp2
            go_ret
            exact ⟨by first | rfl | (simp [errW_none, errW_some] <;> rfl) | (simp [errW_none, errW_some]; exact ⟨rfl, rfl⟩) | (simp [errW_none, errW_some]; exact ⟨rfl, rfl, rfl⟩) | (simp [*, errW_none, errW_some] <;> rfl), by repeat (first | (with_reducible first | exact HB.out | apply below_alloc | apply pw_below_drewN | apply below_drew1) | exact HB.out)⟩
          ·replace c29 := Bool.eq_false_iff.mpr c29
           subst c29
           have H1 : (some false) = some r := by rw [if_neg (show ¬ (false = true) by decide)] at H; exact H
           clear H
           have H := H1
           clear H1
           obtain rfl := Option.some.inj H
           go_wp2
           go_ret
           exact ⟨by first | rfl | (simp [errW_none, errW_some] <;> rfl) | (simp [errW_none, errW_some]; exact ⟨rfl, rfl⟩) | (simp [errW_none, errW_some]; exact ⟨rfl, rfl, rfl⟩) | (simp [*, errW_none, errW_some] <;> rfl), by repeat (first | (with_reducible first | exact HB.out | apply below_alloc | apply pw_below_drewN | apply below_drew1) | exact HB.out)⟩

/-- THE ONE PURE STATEMENT of laws_FnRowsOf: yours. -/
def laws_FnRowsOf.Pure : Prop := ∀ (l0 : List Int), l0.length ≤ maxLen → l0.length * 1 ≤ 140737488351232 → (∀ x ∈ l0, (Lit.int .u8 x).wf = true) → ∃ k, laws_FnRowsOf.f k l0 = some true
theorem laws_FnRowsOf.walk (P : laws_FnRowsOf.Pure) (a0 : Option Addr) (len0 cap0 : Nat) (z0 : List Int) (w : World) (w0 : (a0 = none ∧ len0 = 0 ∧ cap0 = 0 ∧ z0 = []) ∨ ∃ x, a0 = some x ∧ len0 ≤ cap0 ∧ cap0 ≤ maxLen ∧ z0.length = cap0 ∧ (∀ i, i < z0.length → w.cell? (x.add i) = some (.int .u8 (z0.getD i 0))) ∧ ∀ n ∈ z0, (Lit.int .u8 n).wf = true) (y0 : len0 * 1 ≤ 140737488351232) :
  Calls Try.prog 5 #[.slice a0 len0 cap0] w fun e w' => e = .returned (.bool true) ∧ Below w.heap.size w w' := by
 obtain ⟨l0, rfl, hr0, hm0, hw0, hc0⟩ := ReadsInt.ofRowC w0
 obtain ⟨k, h⟩ := P l0 hm0 y0 hw0
 refine (laws_FnRowsOf.calls k _ _ l0 true w (Kd.C_of_reads (d := (0 : Int)) (h1 := fun _ => rfl) hr0) hc0 h).mono ?_
 rintro e w' ⟨rfl, hd⟩
 exact ⟨rfl, hd⟩

end Go.Proofs.Ytdoghlojgofmaaa.Q

namespace Go.Proofs.Ytdoghlojgofmaaa.Q
open Go.RowKit Go.Proofs.YtdoghlojgofmaaaW.PrintWords Go.Proofs.YtdoghlojgofmaaaW.PrintLast Go.Proofs.YtdoghlojgofmaaaW.PrintMore
open Go.Proofs.Ytdoghlojgofmaaa.Pl
set_option linter.unusedVariables false
set_option linter.unusedSimpArgs false
theorem idx_ev {P : Nat → S79 → Option Bool} {q : S79 → Bool} : ∀ (l : List S79) (i : Nat), (∀ x ∈ l, Ev (fun k => P k x) (q x)) → ∃ r : Int, Ev (fun k => RowIdx.f (P k) l i) r ∧ decide (r ≥ 0) = l.any q := by
  intro l
  induction l with
  | nil => intro i _; exact ⟨-1, Ev.now _, rfl⟩
  | cons x l ih =>
    intro i h
    have hx := h x (List.mem_cons_self ..)
    cases hq : q x with
    | true =>
      rw [hq] at hx
      refine ⟨(i : Int), Ev.bind hx (Ev.now _), ?_⟩
      rw [List.any_cons, hq, Bool.true_or, decide_eq_true (by omega)]
    | false =>
      rw [hq] at hx
      obtain ⟨r, r1, r2⟩ := ih (i + 1) (fun y hy => h y (List.mem_cons_of_mem _ hy))
      exact ⟨r, Ev.bind hx r1, by rw [List.any_cons, hq, Bool.false_or]; exact r2⟩
theorem any_ev {P : Nat → S79 → Option Bool} {q : S79 → Bool} (l : List S79) (h : ∀ x ∈ l, Ev (fun k => P k x) (q x)) : Ev (fun k => RowAny.f l (P k)) (l.any q) := by
  obtain ⟨r, r1, r2⟩ := idx_ev l 0 h
  rw [← r2]
  exact Ev.bind r1 (Ev.now _)

theorem again_l {ms : List (Nat × Nat)} (hr : ∀ x ∈ ms, Row60 x) (hlen : ms.length ≤ 6) (d : Nat) : ∀ i, i + d = 61 → 1 ≤ i → i ≤ 60 → ∃ r : Nat, 1 ≤ r ∧ r ≤ 60 ∧ Ev (fun k => impl_again.loop k (ms.map toS) d i) (r : Int) ∧ ∀ x ∈ ms, Cov x.1 (Nat.gcd x.2 r) ms := by
  induction d with
  | zero => intro i hi _ h; omega
  | succ d ih =>
    intro i hi h1 h60
    have one : ∀ x ∈ ms, ∃ r, Ev (fun k => impl_again.p k (i : Int) (ms.map toS) (toS x)) (!r) ∧ (r = true ↔ Cov x.1 (Nat.gcd x.2 i) ms) := by
      intro x hx
      have hxr := hr x hx
      have hxl := hxr.le
      obtain ⟨r, r1, r2⟩ := covered_ev (60 / Nat.gcd x.2 i) x.1 (Nat.gcd x.2 i) ms (Nat.le_refl _) (Nat.dvd_trans (Nat.gcd_dvd_left x.2 i) hxr.dvd) (by omega) hlen hr
      exact ⟨r, Ev.bind (gcd_ev i x.2) (Ev.bind r1 (Ev.now _)), r2⟩
    have cho : ∃ q : S79 → Bool, (∀ y ∈ ms.map toS, Ev (fun k => impl_again.p k (i : Int) (ms.map toS) y) (q y)) ∧ ∀ x ∈ ms, (q (toS x) = false ↔ Cov x.1 (Nat.gcd x.2 i) ms) := by
      classical
      refine ⟨fun y => decide (¬ Cov y.f0.toNat (Nat.gcd y.f1.toNat i) ms), ?_, ?_⟩
      · intro y hy
        obtain ⟨x, hx, rfl⟩ := List.mem_map.1 hy
        obtain ⟨r, r1, r2⟩ := one x hx
        have e : (!r) = decide (¬ Cov (toS x).f0.toNat (Nat.gcd (toS x).f1.toNat i) ms) := by
          show (!r) = decide (¬ Cov ((x.1 : Int)).toNat (Nat.gcd ((x.2 : Int)).toNat i) ms)
          rw [Int.toNat_natCast, Int.toNat_natCast]
          cases r with
          | true =>
            have hc := r2.1 rfl
            symm
            rw [Bool.not_true, decide_eq_false_iff_not]
            exact fun h => h hc
          | false =>
            symm
            rw [Bool.not_false, decide_eq_true_eq]
            intro h
            have := r2.2 h
            cases this
        rw [e] at r1; exact r1
      · intro x hx
        show decide (¬ Cov ((x.1 : Int)).toNat (Nat.gcd ((x.2 : Int)).toNat i) ms) = false ↔ _
        rw [Int.toNat_natCast, Int.toNat_natCast, decide_eq_false_iff_not]
        exact Classical.not_not
    obtain ⟨q, q1, q2⟩ := cho
    have hany := any_ev (ms.map toS) q1
    cases ha : (ms.map toS).any q with
    | false =>
      rw [ha] at hany
      refine ⟨i, h1, h60, Ev.bind hany (Ev.now _), fun x hx => (q2 x hx).1 ?_⟩
      exact Bool.eq_false_iff.2 fun h => by
        have : (ms.map toS).any q = true := List.any_eq_true.2 ⟨toS x, List.mem_map_of_mem hx, h⟩
        rw [ha] at this; cases this
    | true =>
      rw [ha] at hany
      have hlt : i < 60 := by
        refine Decidable.byContradiction fun c => ?_
        obtain rfl : i = 60 := by omega
        obtain ⟨y, hy, hq⟩ := List.any_eq_true.1 ha
        obtain ⟨x, hx, rfl⟩ := List.mem_map.1 hy
        have := (q2 x hx).2 (cov_self hx (hr x hx).dvd)
        rw [this] at hq; cases hq
      obtain ⟨r, r1, r2, r3, r4⟩ := ih (i + 1) (by omega) (by omega) (by omega)
      exact ⟨r, r1, r2, Ev.bind hany r3, r4⟩
theorem again_ev {ms : List (Nat × Nat)} (hr : ∀ x ∈ ms, Row60 x) (hlen : ms.length ≤ 6) : ∃ d : Nat, 1 ≤ d ∧ d ≤ 60 ∧ Ev (fun k => impl_again.f k (ms.map toS)) (d : Int) ∧ ∀ n, Un ms (n + d) ↔ Un ms n := by
  obtain ⟨r, r1, r2, r3, r4⟩ := again_l hr hlen 60 1 (by omega) (by omega) (by omega)
  refine ⟨r, r1, r2, ?_, fun n => un_period r4 n⟩
  unfold impl_again.f
  rw [show (fun k => _) = _ from funext fun k => if_pos (by rw [List.length_map]; omega)]
  exact r3

def okRow (r : List Int) : Bool := decide (r.length = 2) && (decide (0 ≤ rd r 0 ∧ rd r 0 ≤ 59) && decide (0 ≤ rd r 1 ∧ rd r 1 ≤ 60))
def toR (r : List Int) : S79 := ⟨rd r 0, rd r 1⟩
theorem in_eq7 (v a b : Int) : impl_in.f v a b = some (decide (a ≤ v ∧ v ≤ b)) := by
  unfold impl_in.f
  by_cases c1 : a ≤ v
  · by_cases c2 : v ≤ b <;> simp [c1, c2]
  · simp [c1]
theorem in_eq6 (v a b : Int) : spec_l6In.f v a b = some (decide (a ≤ v ∧ v ≤ b)) := by
  unfold spec_l6In.f
  by_cases c1 : v ≥ a
  · rw [if_pos c1]; congr 1; rw [decide_eq_decide]; exact ⟨fun h => ⟨c1, h⟩, fun h => h.2⟩
  · rw [if_neg c1, decide_eq_false (fun h => c1 h.1)]
theorem l3Row_eq (r : List Int) : spec_l3Row.f r = some (okRow r) := by
  unfold spec_l3Row.f okRow
  by_cases h : r.length = 2
  · rw [if_pos (by omega), if_pos (by omega), in_eq6, decide_eq_true h]
    simp only [Option.bind_some, Bool.true_and]
    cases c : decide (0 ≤ rd r 0 ∧ rd r 0 ≤ 59) with
    | true => rw [if_pos rfl, if_pos (by omega), in_eq6]; rfl
    | false => rw [if_neg (by simp)]; rfl
  · rw [if_neg (by omega), decide_eq_false h]; rfl
theorem rd_row (rows : List (List Int)) (i : Nat) (h : i < rows.length) : ∃ r, rd_L5 rows (i : Int) = r ∧ rows.drop i = r :: rows.drop (i + 1) := by
  refine ⟨rows[i], ?_, List.drop_eq_getElem_cons h⟩
  simp [rd_L5, List.getD, h]
theorem rowsOf_l0 {rows : List (List Int)} (hlen : rows.length ≤ 20) (d : Nat) : ∀ (i : Nat) (acc : List S79), i + d = rows.length → acc.length = i →
    Ev (fun k => impl_rowsOf.l0 k acc rows (rows.length : Int) (i : Int)) (if (rows.drop i).all okRow = true then (acc ++ (rows.drop i).map toR, true) else ([], false)) := by
  induction d with
  | zero =>
    intro i acc hi ha
    obtain rfl : i = rows.length := by omega
    rw [List.drop_length]
    refine Ev.end fun k => ?_
    simp only [impl_rowsOf.l0]
    rw [if_neg (by omega), decide_eq_true (by omega)]
    simp
  | succ d ih =>
    intro i acc hi ha
    obtain ⟨r, h1, h2⟩ := rd_row rows i (by omega)
    rw [h2, List.all_cons, List.map_cons]
    have no : okRow r = false → Ev (fun k => impl_rowsOf.l0 k acc rows (rows.length : Int) (i : Int)) (([] : List S79), false) := by
      intro hb
      refine Ev.end fun k => ?_
      simp only [impl_rowsOf.l0, h1, in_eq7]
      rw [if_pos (by omega), if_pos (by omega), if_pos (by omega)]
      unfold okRow at hb
      by_cases hl : r.length = 2
      · rw [if_pos (by omega), if_pos (by omega)]
        rw [decide_eq_true hl, Bool.true_and] at hb
        simp only [Option.bind_some]
        cases c : decide (0 ≤ rd r 0 ∧ rd r 0 ≤ 59) with
        | false => rw [if_neg (by simp)]
        | true =>
          rw [c, Bool.true_and] at hb
          rw [if_pos rfl, if_pos (by omega), hb, if_neg (by simp)]
      · rw [if_neg (by omega)]
    cases hb : okRow r with
    | false =>
      rw [Bool.false_and, if_neg (by simp)]
      exact no hb
    | true =>
      rw [Bool.true_and]
      have k1 := ih (i + 1) (acc ++ [toR r]) (by omega) (by simp [ha])
      rw [List.append_assoc] at k1
      refine Ev.step (fun k => ?_) k1
      unfold okRow at hb
      simp only [Bool.and_eq_true, decide_eq_true_eq] at hb
      simp only [impl_rowsOf.l0, h1, in_eq7, decide_eq_true hb.2.1, decide_eq_true hb.2.2, Option.bind_some, if_true]
      rw [if_pos (by omega), if_pos (by omega), if_pos (by omega), if_pos (by omega), if_pos (by omega), if_pos (by omega), if_pos (by omega), wr1 (by omega)]
      rfl
theorem rowsOf_ev {rows : List (List Int)} (hlen : rows.length ≤ 20) : Ev (fun k => impl_rowsOf.f k rows) (if rows.all okRow = true then (rows.map toR, true) else ([], false)) := by
  have := rowsOf_l0 hlen rows.length 0 [] (by omega) rfl
  unfold impl_rowsOf.f
  simpa using this
theorem l3Rows_l0 {rows : List (List Int)} (hlen : rows.length ≤ 20) (d : Nat) : ∀ i, i + d = rows.length → Ev (fun k => spec_l3Rows.l0 k rows (i : Int)) ((rows.drop i).all okRow) := by
  induction d with
  | zero =>
    intro i hi
    obtain rfl : i = rows.length := by omega
    rw [List.drop_length]
    refine Ev.end fun k => ?_
    simp only [spec_l3Rows.l0]
    rw [if_neg (by omega), decide_eq_true (by omega)]
    rfl
  | succ d ih =>
    intro i hi
    obtain ⟨r, h1, h2⟩ := rd_row rows i (by omega)
    rw [h2, List.all_cons]
    cases hb : okRow r with
    | false =>
      refine Ev.end fun k => ?_
      simp only [spec_l3Rows.l0, h1, l3Row_eq, hb]
      rw [if_pos (by omega), if_pos (by omega)]
      rfl
    | true =>
      rw [Bool.true_and]
      refine Ev.step (fun k => ?_) (ih (i + 1) (by omega))
      simp only [spec_l3Rows.l0, h1, l3Row_eq, hb]
      rw [if_pos (by omega), if_pos (by omega), Option.bind_some, if_pos rfl, wr1 (by omega)]
theorem l3Rows_ev {rows : List (List Int)} (hlen : rows.length ≤ 20) : Ev (fun k => spec_l3Rows.f k rows) (rows.all okRow) := by
  have := l3Rows_l0 hlen rows.length 0 (by omega)
  unfold spec_l3Rows.f
  simpa using this

def rowI (x : Nat × Nat) : List Int := [(x.1 : Int), (x.2 : Int)]
structure RowOk (x : Nat × Nat) : Prop where
  le : x.1 ≤ 59
  dvd : x.2 = 0 ∨ x.2 ∣ 60
theorem RowOk.le2 {x : Nat × Nat} (h : RowOk x) : x.2 ≤ 60 := by
  rcases h.dvd with h | h
  · omega
  · exact Nat.le_of_dvd (by omega) h
theorem okRow_rowI {x : Nat × Nat} (h : RowOk x) : okRow (rowI x) = true := by
  have h1 := h.le
  have h2 := h.le2
  unfold okRow rowI
  rw [show rd [(x.1 : Int), (x.2 : Int)] 0 = (x.1 : Int) from rfl, show rd [(x.1 : Int), (x.2 : Int)] 1 = (x.2 : Int) from rfl, decide_eq_true (by rfl), decide_eq_true (by omega), decide_eq_true (by omega)]
  rfl
theorem all_rowI {xs : List (Nat × Nat)} (h : ∀ x ∈ xs, RowOk x) : (xs.map rowI).all okRow = true := List.all_eq_true.2 fun r hr => by
  obtain ⟨x, hx, rfl⟩ := List.mem_map.1 hr
  exact okRow_rowI (h x hx)
theorem toR_rowI (xs : List (Nat × Nat)) : (xs.map rowI).map toR = xs.map toS := by
  rw [List.map_map]; rfl
/-- A row has a number. -/
def hasN (x : Nat × Nat) (n : Nat) : Bool := if x.2 = 0 then n == x.1 else decide (x.1 ≤ n) && ((n - x.1) % x.2 == 0)
def cntN (xs : List (Nat × Nat)) (n : Nat) : Nat := xs.countP fun x => hasN x n
theorem has_core {b s n : Nat} (hb : b ≤ 1000) (hn : n ≤ 1000000) : (if (s : Int) = 0 then some ((n : Int) == (b : Int)) else (if (n : Int) ≥ (b : Int) then some (Int.tmod (wrap64 ((n : Int) - (b : Int))) (s : Int) == 0) else some false)) = some (hasN (b, s) n) := by
  unfold hasN
  by_cases h0 : s = 0
  · rw [if_pos (by omega), if_pos h0]
    congr 1
    rw [Bool.eq_iff_iff, beq_iff_eq, beq_iff_eq]
    show (n : Int) = b ↔ n = b
    omega
  · rw [if_neg (by omega), if_neg h0]
    by_cases h1 : b ≤ n
    · rw [if_pos (by omega), wr (by omega) (by omega), show (n : Int) - (b : Int) = ((n - b : Nat) : Int) by omega, tmod_nat, decide_eq_true (show (b, s).1 ≤ n from h1), Bool.true_and]
      congr 1
      rw [Bool.eq_iff_iff, beq_iff_eq, beq_iff_eq]
      show (((n - b) % s : Nat) : Int) = 0 ↔ (n - b) % s = 0
      omega
    · rw [if_neg (by omega), decide_eq_false (show ¬ (b, s).1 ≤ n from h1), Bool.false_and]
theorem row_has {x : Nat × Nat} (h : RowOk x) {n : Nat} (hn : n ≤ 1000000) : impl_row_has.f x.1 x.2 n = some (hasN x n) := by
  unfold impl_row_has.f
  have := h.le
  exact has_core (by omega) hn
theorem drop_rowI (xs : List (Nat × Nat)) (i : Nat) (h : i < xs.length) : ∃ x, x ∈ xs ∧ rd_L5 (xs.map rowI) (i : Int) = rowI x ∧ rd_T79 (xs.map toS) (i : Int) = toS x ∧ xs.drop i = x :: xs.drop (i + 1) := by
  refine ⟨xs[i], List.getElem_mem h, ?_, ?_, List.drop_eq_getElem_cons h⟩
  · simp [rd_L5, List.getD, h]
  · simp [rd_T79, List.getD, h]
theorem cnt_cons (x : Nat × Nat) (l : List (Nat × Nat)) (n : Nat) : cntN (x :: l) n = (if hasN x n = true then 1 else 0) + cntN l n := by
  unfold cntN
  rw [List.countP_cons]
  omega
theorem rowsHas_l0 {xs : List (Nat × Nat)} (hx : ∀ x ∈ xs, RowOk x) (hlen : xs.length ≤ 20) {n : Nat} (hn : n ≤ 1000000) (d : Nat) : ∀ (i c : Nat), i + d = xs.length → c ≤ 1000 + i → Ev (fun k => impl_RowsHas.l0 k n (c : Int) (xs.map toS) (xs.length : Int) (i : Int)) (((c + cntN (xs.drop i) n : Nat) : Int), true) := by
  induction d with
  | zero =>
    intro i c hi hc
    obtain rfl : i = xs.length := by omega
    rw [List.drop_length]
    refine Ev.end fun k => ?_
    simp only [impl_RowsHas.l0]
    rw [if_neg (by omega)]
    rfl
  | succ d ih =>
    intro i c hi hc
    obtain ⟨x, h0, _, h1, h2⟩ := drop_rowI xs i (by omega)
    rw [h2, cnt_cons]
    have hh : impl_row_has.f (toS x).f0 (toS x).f1 n = some (hasN x n) := row_has (hx x h0) hn
    cases hb : hasN x n with
    | true =>
      rw [hb] at hh
      have k1 := ih (i + 1) (c + 1) (by omega) (by omega)
      rw [if_pos rfl, show c + (1 + cntN (xs.drop (i + 1)) n) = c + 1 + cntN (xs.drop (i + 1)) n by omega]
      refine Ev.step (fun k => ?_) k1
      simp only [impl_RowsHas.l0, List.length_map, h1, hh]
      rw [if_pos (by omega), if_pos (by omega), if_pos (by omega), Option.bind_some, if_pos rfl, wr1 (by omega), wr1 (by omega)]
    | false =>
      rw [hb] at hh
      have k1 := ih (i + 1) c (by omega) (by omega)
      rw [if_neg (by simp), Nat.zero_add]
      refine Ev.step (fun k => ?_) k1
      simp only [impl_RowsHas.l0, List.length_map, h1, hh]
      rw [if_pos (by omega), if_pos (by omega), if_pos (by omega), Option.bind_some, if_neg (by simp), wr1 (by omega)]
theorem rowsOf_ok {xs : List (Nat × Nat)} (hx : ∀ x ∈ xs, RowOk x) (hlen : xs.length ≤ 20) : Ev (fun k => impl_rowsOf.f k (xs.map rowI)) (xs.map toS, true) := by
  have := rowsOf_ev (rows := xs.map rowI) (by rw [List.length_map]; exact hlen)
  rw [if_pos (all_rowI hx), toR_rowI] at this
  exact this
theorem rowsHas_ev {xs : List (Nat × Nat)} (hx : ∀ x ∈ xs, RowOk x) (hlen : xs.length ≤ 20) {n : Nat} (hn : n ≤ 10000) : Ev (fun k => impl_RowsHas.f k (xs.map rowI) n) (((cntN xs n : Nat) : Int), true) := by
  unfold impl_RowsHas.f
  refine Ev.bind (rowsOf_ok hx hlen) ?_
  simp only [if_true, in_eq7, decide_eq_true (show (0 : Int) ≤ (n : Int) ∧ (n : Int) ≤ 10000 by omega), Option.bind_some, Bool.not_true]
  refine Ev.step (f := fun k => impl_RowsHas.l0 k n 0 (xs.map toS) (xs.length : Int) 0) (fun k => ?_) ?_
  · rw [impl_RowsHas.j0, if_neg (by simp), List.length_map]
  · have := rowsHas_l0 hx hlen (show n ≤ 1000000 by omega) xs.length 0 0 (by omega) (by omega)
    simpa using this

def anyN (xs : List (Nat × Nat)) (n : Nat) : Bool := decide (0 < cntN xs n)
theorem anyN_iff (xs : List (Nat × Nat)) (n : Nat) : anyN xs n = true ↔ ∃ x ∈ xs, hasN x n = true := by
  unfold anyN cntN
  rw [decide_eq_true_eq, List.countP_pos_iff]
def movN (xs : List (Nat × Nat)) : List (Nat × Nat) := xs.filter fun x => !(x.2 == 0)
theorem anyN_far {xs : List (Nat × Nat)} (hx : ∀ x ∈ xs, RowOk x) {n : Nat} (hn : 60 ≤ n) : anyN xs n = true ↔ Un (movN xs) n := by
  rw [anyN_iff]
  unfold Un movN
  constructor
  · rintro ⟨x, hm, hh⟩
    have hle := (hx x hm).le
    unfold hasN at hh
    by_cases hz : x.2 = 0
    · rw [if_pos hz, beq_iff_eq] at hh; omega
    · rw [if_neg hz, Bool.and_eq_true, decide_eq_true_eq, beq_iff_eq] at hh
      refine ⟨x, List.mem_filter.2 ⟨hm, by simpa using hz⟩, ?_⟩
      exact mod_of_dvd_sub hh.1 (Nat.dvd_of_mod_eq_zero hh.2)
  · rintro ⟨x, hm, hh⟩
    obtain ⟨h1, h2⟩ := List.mem_filter.1 hm
    have hle := (hx x h1).le
    have hz : ¬ x.2 = 0 := by simpa using h2
    refine ⟨x, h1, ?_⟩
    unfold hasN
    rw [if_neg hz, Bool.and_eq_true, decide_eq_true_eq, beq_iff_eq]
    exact ⟨by omega, Nat.sub_mod_eq_zero_of_mod_eq hh⟩
theorem anyN_period {xs : List (Nat × Nat)} (hx : ∀ x ∈ xs, RowOk x) {d : Nat} (h : ∀ n, Un (movN xs) (n + d) ↔ Un (movN xs) n) (n : Nat) (hn : 60 ≤ n) : anyN xs (n + d) = anyN xs n := by
  rw [Bool.eq_iff_iff, anyN_far hx (by omega), anyN_far hx hn]
  exact h n
theorem mov_row {xs : List (Nat × Nat)} (hx : ∀ x ∈ xs, RowOk x) : ∀ x ∈ movN xs, Row60 x := by
  intro x hm
  obtain ⟨h1, h2⟩ := List.mem_filter.1 hm
  have hz : ¬ x.2 = 0 := by simpa using h2
  exact ⟨(hx x h1).le, (hx x h1).dvd.resolve_left hz⟩
theorem moving_eq {xs : List (Nat × Nat)} (hlen : xs.length ≤ 20) : impl_moving.f (xs.map toS) = some ((movN xs).map toS) := by
  unfold impl_moving.f
  rw [if_pos (by rw [List.length_map]; omega)]
  congr 1
  unfold movN
  rw [List.filter_map]
  congr 1
  refine List.filter_congr fun x _ => ?_
  show (!((x.2 : Int) == 0)) = !(x.2 == 0)
  congr 1
  rw [Bool.eq_iff_iff, beq_iff_eq, beq_iff_eq]
  omega
theorem rowsSet_impl {xs : List (Nat × Nat)} (hx : ∀ x ∈ xs, RowOk x) (hlen : xs.length ≤ 20) (hm : (movN xs).length ≤ 6) : ∃ x, Ev (fun k => impl_RowsSet.f k (xs.map rowI)) x ∧ Told (anyN xs) x := by
  obtain ⟨d, d1, d2, d3, d4⟩ := again_ev (mov_row hx) hm
  obtain ⟨x, x1, x2⟩ := made_ev (f := anyN xs) (from_ := 60) (size := d) d1 ⟨by omega, by omega⟩ (fun n hn => anyN_period hx d4 n hn) (P := fun _ => impl_RowsSet.p (xs.map toS)) (fun n hn => by
    unfold impl_RowsSet.p
    have := any_ev (P := fun _ x => impl_row_has.f x.f0 x.f1 n) (q := fun y => hasN (y.f0.toNat, y.f1.toNat) n) (xs.map toS) (fun y hy => by
      obtain ⟨x, hm, rfl⟩ := List.mem_map.1 hy
      refine Ev.const fun _ => ?_
      show impl_row_has.f x.1 x.2 n = some (hasN (((x.1 : Int)).toNat, ((x.2 : Int)).toNat) n)
      rw [Int.toNat_natCast, Int.toNat_natCast]
      exact row_has (hx x hm) (by omega))
    have e : (xs.map toS).any (fun y => hasN (y.f0.toNat, y.f1.toNat) n) = anyN xs n := by
      rw [Bool.eq_iff_iff, anyN_iff, List.any_map, List.any_eq_true]
      exact Iff.rfl
    rw [e] at this
    exact this)
  refine ⟨x, ?_, x2⟩
  unfold impl_RowsSet.f
  refine Ev.bind (rowsOf_ok hx hlen) ?_
  simp only [moving_eq hlen, Option.bind_some]
  refine Ev.bind d3 ?_
  simp only [if_true, if_neg (show ¬ (d : Int) = 0 by omega), if_pos (show (xs.map toS).length < 1000 by rw [List.length_map]; omega)]
  exact x1

theorem signs5_l0 {bs : List Int} (h : Bs bs) (c : Nat) : ∀ (l : List Bool) (p : Nat), p + c ≤ 1000000 → l.length + c ≤ 1000000 →
    ∃ l2 : List Bool, l2.length = l.length + c ∧ Ev (fun k => spec_l91Signs.l0 k (l.map num) c bs p) ((⟨(tell l2).toArray⟩ : ByteArray), ((p + c : Nat) : Int)) := by
  induction c with
  | zero =>
    intro l p hp ha
    refine ⟨l, rfl, Ev.end fun k => ?_⟩
    simp only [spec_l91Signs.l0]
    rw [if_neg (by omega)]
    congr 2
    show strOfNums (l.map num) = _
    refine ba_ext ?_
    rw [← num_byte]
    rfl
  | succ c ih =>
    intro l p hp ha
    obtain ⟨v, hv, e⟩ := pick_ev h p 2 (by omega) (by omega) (by omega)
    obtain ⟨l2, hs, es⟩ := ih (l ++ [v == 1]) (p + 1) (by omega) (by rw [List.length_append, List.length_singleton]; omega)
    rw [List.length_append, List.length_singleton] at hs
    have hnum : (wrap64 (48 + (v : Int))) % 256 = num (v == 1) := by
      have : v = 0 ∨ v = 1 := by omega
      rcases this with rfl | rfl <;> simp [wrap64, num]
    refine ⟨l2, by omega, Ev.step (f := fun k => (spec_l6Rd_pick.f k bs p 2).bind fun x => if (l.map num).length < 140737488355328 then spec_l91Signs.l0 k ((l.map num) ++ [(wrap64 (48 + x.1)) % 256]) (c : Nat) bs x.2 else none) (fun k => ?_) (Ev.bind e ?_)⟩
    · simp only [spec_l91Signs.l0]
      rw [if_pos (by omega), wr (x := ((c + 1 : Nat) : Int) - 1) (by omega) (by omega), show ((c + 1 : Nat) : Int) - 1 = (c : Int) from by omega]
    · simp only [if_pos (show (l.map num).length < 140737488355328 from by rw [List.length_map]; omega), hnum]
      rw [show p + (c + 1) = p + 1 + c from by omega]
      rw [List.map_append] at es
      exact es
theorem signs5 {bs : List Int} (h : Bs bs) (p low many : Nat) (hp : p ≤ 100000) (hl : low ≤ 1000) (hm : 1 ≤ many) (hm2 : many ≤ 1000) :
    ∃ (l : List Bool) (q : Nat), low ≤ l.length ∧ l.length < low + many ∧ q ≤ p + 1 + low + many ∧ Ev (fun k => spec_l91Signs.f k bs p low many) ((⟨(tell l).toArray⟩ : ByteArray), (q : Int)) := by
  obtain ⟨v, hv, e⟩ := pick_ev h p many (by omega) hm (by omega)
  obtain ⟨l, hs, es⟩ := signs5_l0 h (low + v) [] (p + 1) (by omega) (by simp; omega)
  simp only [List.length_nil] at hs
  refine ⟨l, p + 1 + (low + v), by omega, by omega, by omega, ?_⟩
  unfold spec_l91Signs.f
  refine Ev.bind e ?_
  simp only [show wrap64 ((low : Int) + (v : Int)) = ((low + v : Nat) : Int) from by rw [wr (by omega) (by omega)]; omega]
  exact es
theorem no_two {s : ByteArray} (hs : s.size ≤ 1000) (h0 : s.data.toList.getD 0 0 = 40) {j : Nat} (hj : 1 ≤ j) (hj2 : j + 1 < s.size) (hb : s.data.toList.getD j 0 = 40) (t r : List Bool) : ¬ IsSet s t r := by
  intro h
  have hi := h.impl
  have hl := size_data s
  have hx : Lib.indexByte s.data.toList 40 = 0 := by
    rcases index_cases s.data.toList 40 with ⟨_, h2⟩ | ⟨i, h1, h2, h3, h4⟩
    · exact absurd h0 (h2 0 (by omega))
    · rcases Nat.eq_zero_or_pos i with rfl | c
      · exact h2
      · exact absurd h0 (h4 0 c)
  have hc : strings_Cut.f s ⟨#[40]⟩ = some (s.extract 0 0, s.extract 1 s.size, true) := by
    unfold strings_Cut.f stringslite_Cut.f stringslite_Index.f
    rw [dif_pos (by rfl)]
    show ((some (Lib.indexByte s.data.toList 40)).bind _).bind _ = _
    rw [hx]
    simp only [Option.bind_some]
    have hz : ((⟨#[40]⟩ : ByteArray).size : Int) = 1 := rfl
    rw [if_pos (by omega), if_pos (by omega), if_pos (by omega), hz, wr (by omega) (by omega), if_pos (by omega), if_pos (by omega)]
    rfl
  unfold impl_setOf.f at hi
  rw [hc, Option.bind_some] at hi
  obtain ⟨⟨ring, en⟩, h1, hi⟩ := Option.bind_eq_some_iff.mp hi
  obtain ⟨⟨a, first⟩, h2, hi⟩ := Option.bind_eq_some_iff.mp hi
  obtain ⟨⟨b, second⟩, h3, hi⟩ := Option.bind_eq_some_iff.mp hi
  replace h1 : strings_CutSuffix.f (s.extract 1 s.size) ⟨#[41]⟩ = some (ring, en) := h1
  replace h3 : impl_signs.f ring = some (b, second) := h3
  simp only [if_true] at hi
  cases en with
  | false => simp at hi
  | true =>
    have h41 : ((⟨#[41]⟩ : ByteArray).size : Int) = 1 := rfl
    have hz1 : (s.extract 1 s.size).size = s.size - 1 := ext_size _ _ _ (Nat.le_refl _)
    have hr : ring = s.extract 1 (s.size - 1) := by
      unfold strings_CutSuffix.f stringslite_CutSuffix.f stringslite_HasSuffix.f at h1
      rw [h41, if_pos (by omega), wr (by omega) (by omega), if_pos (by omega), if_pos (by omega)] at h1
      simp only [Option.bind_some] at h1
      split at h1
      · rw [if_pos (by omega), if_pos (by omega), show (((s.extract 1 s.size).size : Int) - 1).toNat = (s.extract 1 s.size).size - 1 from by omega] at h1
        simp only [Option.bind_some, Option.some.injEq, Prod.mk.injEq] at h1
        rw [← h1.1]
        exact ring_eq (i := 0) (by omega)
      · simp at h1
    have hk : okL ring.data.toList = false := by
      refine Bool.eq_false_iff.2 fun hk => ?_
      have := List.all_eq_true.1 hk 40 ?_
      · exact absurd this (by decide)
      · rw [hr, ext_list]
        have hlen : j < s.data.toList.length := by omega
        have hg : s.data.toList[j] = 40 := by
          have : s.data.toList.getD j 0 = s.data.toList[j] := by
            show (s.data.toList[j]?).getD 0 = _
            rw [List.getElem?_eq_getElem hlen]; rfl
          rw [← this]; exact hb
        rw [List.mem_iff_getElem]
        refine ⟨j - 1, by simp; omega, ?_⟩
        rw [List.getElem_drop, List.getElem_take]
        rw [← hg]
        congr 1
        omega
    rw [signs_ev ring (by rw [hr, ext_size _ _ _ (by omega)]; omega), hk, if_neg (by simp)] at h3
    simp only [Option.some.injEq, Prod.mk.injEq] at h3
    obtain ⟨rfl, rfl⟩ := h3
    cases first <;> simp at hi


theorem isSet_text {t r t2 r2 : List Bool} (g : Good t r) (h : IsSet (text t r) t2 r2) : t2 = t ∧ r2 = r := by
  have h1 := h.impl
  rw [(text_isSet g).impl] at h1
  simp only [Option.some.injEq, Prod.mk.injEq, and_true] at h1
  exact ⟨h1.1.symm, h1.2.symm⟩
theorem noSet_of {s : ByteArray} (h : ((impl_setOf.f s).map fun y => y.2.2) = some false) (t r : List Bool) : ¬ IsSet s t r := by
  intro k
  rw [k.impl] at h
  simp at h
def Small5 (s : ByteArray) : Prop := ∀ t r, IsSet s t r → t.length ≤ 5 ∧ r.length ≤ 5
theorem small_text {l1 l2 : List Bool} (h1 : l1.length ≤ 5) (h0 : 0 < l2.length) (h2 : l2.length ≤ 5) : Small5 (text l1 l2) := by
  intro t r h
  obtain ⟨rfl, rfl⟩ := isSet_text ⟨h0, by omega, by omega⟩ h
  exact ⟨h1, h2⟩
theorem small_lit (u : Nat) (hu : u < 9) : Small5 (rdOf ByteArray.empty [(⟨#[]⟩ : ByteArray), (⟨#[48]⟩ : ByteArray), (⟨#[40, 41]⟩ : ByteArray), (⟨#[49, 40]⟩ : ByteArray), (⟨#[40, 48, 41, 41]⟩ : ByteArray), (⟨#[97, 40, 49, 41]⟩ : ByteArray), (⟨#[40, 49, 41, 48]⟩ : ByteArray), (⟨#[48, 49, 40, 48, 50, 41]⟩ : ByteArray), (⟨#[48, 40, 40, 49, 41]⟩ : ByteArray)] (u : Int)) := by
  have : u = 0 ∨ u = 1 ∨ u = 2 ∨ u = 3 ∨ u = 4 ∨ u = 5 ∨ u = 6 ∨ u = 7 ∨ u = 8 := by omega
  intro t r h
  refine absurd h (noSet_of ?_ t r)
  rcases this with rfl | rfl | rfl | rfl | rfl | rfl | rfl | rfl | rfl <;> kernel_rfl
theorem turned_list (l1 l2 : List Bool) : ((⟨#[40]⟩ : ByteArray) ++ ((text l1 l2).extract 1 (text l1 l2).size)).data.toList = 40 :: (textL l1 l2).drop 1 := by
  rw [ba_append, ext_list]
  show [40] ++ ((textL l1 l2).take (text l1 l2).size).drop 1 = _
  rw [text_size, List.take_of_length_le (by rw [textL_length]; omega)]
  rfl
theorem small_turned {l1 l2 : List Bool} (h1 : l1.length ≤ 5) (h0 : 0 < l2.length) (h2 : l2.length ≤ 5) : Small5 ((⟨#[40]⟩ : ByteArray) ++ ((text l1 l2).extract 1 (text l1 l2).size)) := by
  cases l1 with
  | nil =>
    have e : ((⟨#[40]⟩ : ByteArray) ++ ((text [] l2).extract 1 (text [] l2).size)) = text [] l2 := ba_ext (by rw [turned_list]; rfl)
    rw [e]
    exact small_text (by simp) h0 h2
  | cons b l =>
    intro t r h
    have hl := turned_list (b :: l) l2
    have hd : (textL (b :: l) l2).drop 1 = tell l ++ 40 :: (tell l2 ++ [41]) := rfl
    rw [hd] at hl
    have hsz := size_data ((⟨#[40]⟩ : ByteArray) ++ ((text (b :: l) l2).extract 1 (text (b :: l) l2).size))
    rw [hl] at hsz
    simp only [List.length_cons, List.length_append, tell_length, List.length_nil] at hsz h1
    refine absurd h (no_two (j := l.length + 1) (by omega) ?_ (by omega) (by omega) ?_ t r)
    · rw [hl]; rfl
    · rw [hl]
      simp [List.getD, tell_length]
theorem set_draw5 {bs : List Int} (h : Bs bs) (p : Nat) (hp : p ≤ 50000) : ∃ (s : ByteArray) (q : Int), s.size ≤ 100 ∧ Small5 s ∧ Ev (fun k => spec_l91Set.f k bs p) (s, q) := by
  obtain ⟨l1, p1, _, hs1, hp1, e1⟩ := signs5 h p 0 6 (by omega) (by omega) (by omega) (by omega)
  obtain ⟨l2, p2, h0, hs2, hp2, e2⟩ := signs5 h p1 1 5 (by omega) (by omega) (by omega) (by omega)
  obtain ⟨v, hv, e3⟩ := pick_ev h p2 24 (by omega) (by omega) (by omega)
  have ht := text_eq l1 l2
  have hz1 := tell_size l1
  have hz2 := tell_size l2
  have htz := text_size l1 l2
  have key : ∃ (s : ByteArray) (q : Int), s.size ≤ 100 ∧ Small5 s ∧ Ev (fun k => if (v : Int) = 0 then ((some (([(⟨#[]⟩ : ByteArray), (⟨#[48]⟩ : ByteArray), (⟨#[40, 41]⟩ : ByteArray), (⟨#[49, 40]⟩ : ByteArray), (⟨#[40, 48, 41, 41]⟩ : ByteArray), (⟨#[97, 40, 49, 41]⟩ : ByteArray), (⟨#[40, 49, 41, 48]⟩ : ByteArray), (⟨#[48, 49, 40, 48, 50, 41]⟩ : ByteArray), (⟨#[48, 40, 40, 49, 41]⟩ : ByteArray)] : List ByteArray) : List ByteArray)).bind fun y => ((spec_l6Rd_pick.f k bs ((p2 + 1 : Nat) : Int) 9).bind fun x => (if 0 ≤ x.1 then (if x.1 < (y.length : Int) then (some (rdOf ByteArray.empty y x.1, x.2)) else (none)) else (none)))) else (if (v : Int) = 1 then ((spec_l91Signs.f k bs ((p2 + 1 : Nat) : Int) 0 6).bind fun x => (if x.1.size + 3 ≤ 9223372036854775807 then (some (x.1 ++ (⟨#[40, 48, 41]⟩ : ByteArray), x.2)) else (none))) else (if (v : Int) = 2 then (if 1 ≤ ((text l1 l2).size : Int) then (if 1 + ((text l1 l2).extract 1 (text l1 l2).size).size ≤ 9223372036854775807 then (some ((⟨#[40]⟩ : ByteArray) ++ ((text l1 l2).extract 1 (text l1 l2).size), ((p2 + 1 : Nat) : Int))) else (none)) else (none)) else (some (text l1 l2, ((p2 + 1 : Nat) : Int)))))) (s, q) := by
    by_cases c0 : v = 0
    · obtain ⟨u, hu, e4⟩ := pick_ev h (p2 + 1) 9 (by omega) (by omega) (by omega)
      refine ⟨rdOf ByteArray.empty [(⟨#[]⟩ : ByteArray), (⟨#[48]⟩ : ByteArray), (⟨#[40, 41]⟩ : ByteArray), (⟨#[49, 40]⟩ : ByteArray), (⟨#[40, 48, 41, 41]⟩ : ByteArray), (⟨#[97, 40, 49, 41]⟩ : ByteArray), (⟨#[40, 49, 41, 48]⟩ : ByteArray), (⟨#[48, 49, 40, 48, 50, 41]⟩ : ByteArray), (⟨#[48, 40, 40, 49, 41]⟩ : ByteArray)] (u : Int), ((p2 + 1 + 1 : Nat) : Int), ?_, small_lit u hu, ?_⟩
      · have : u = 0 ∨ u = 1 ∨ u = 2 ∨ u = 3 ∨ u = 4 ∨ u = 5 ∨ u = 6 ∨ u = 7 ∨ u = 8 := by omega
        rcases this with rfl | rfl | rfl | rfl | rfl | rfl | rfl | rfl | rfl <;> decide
      · simp only [if_pos (show (v : Int) = 0 from by omega), Option.bind_some]
        refine Ev.bind e4 (Ev.const fun k => ?_)
        rw [if_pos (by omega), if_pos (by simp; omega)]
    · simp only [if_neg (show ¬ (v : Int) = 0 from by omega)]
      by_cases c1 : v = 1
      · obtain ⟨l4, p4, _, hs4, hp4, e4⟩ := signs5 h (p2 + 1) 0 6 (by omega) (by omega) (by omega) (by omega)
        have hz4 := tell_size l4
        have e : (⟨(tell l4).toArray⟩ : ByteArray) ++ (⟨#[40, 48, 41]⟩ : ByteArray) = text l4 [false] := ba_ext (by rw [ba_append]; rfl)
        refine ⟨text l4 [false], (p4 : Int), by rw [text_size]; simp; omega, small_text (by omega) (by simp) (by simp), ?_⟩
        simp only [if_pos (show (v : Int) = 1 from by omega)]
        refine Ev.bind e4 (Ev.const fun k => ?_)
        rw [if_pos (by show (⟨(tell l4).toArray⟩ : ByteArray).size + 3 ≤ 9223372036854775807; omega)]
        show some ((⟨(tell l4).toArray⟩ : ByteArray) ++ (⟨#[40, 48, 41]⟩ : ByteArray), (p4 : Int)) = _
        rw [e]
      · simp only [if_neg (show ¬ (v : Int) = 1 from by omega)]
        by_cases c2 : v = 2
        · simp only [if_pos (show (v : Int) = 2 from by omega)]
          have hx : ((text l1 l2).extract 1 (text l1 l2).size).size = (text l1 l2).size - 1 := ext_size _ _ _ (Nat.le_refl _)
          refine ⟨(⟨#[40]⟩ : ByteArray) ++ ((text l1 l2).extract 1 (text l1 l2).size), ((p2 + 1 : Nat) : Int), ?_, small_turned (by omega) (by omega) (by omega), Ev.const fun k => ?_⟩
          · rw [ByteArray.size_append, hx, htz]
            show 1 + _ ≤ 100
            omega
          · rw [if_pos (by omega), if_pos (by omega)]
        · simp only [if_neg (show ¬ (v : Int) = 2 from by omega)]
          exact ⟨text l1 l2, ((p2 + 1 : Nat) : Int), by omega, small_text (by omega) (by omega) (by omega), Ev.now _⟩
  obtain ⟨s, q, g1, g2, g3⟩ := key
  refine ⟨s, q, g1, g2, ?_⟩
  unfold spec_l91Set.f
  refine Ev.bind e1 ?_
  simp only [hz1, if_pos (show l1.length + 1 ≤ 9223372036854775807 from by omega)]
  refine Ev.bind e2 ?_
  simp only [hz2, if_pos (show l1.length + 1 + l2.length ≤ 9223372036854775807 from by omega), if_pos (show l1.length + 1 + l2.length + 1 ≤ 9223372036854775807 from by omega), ht]
  exact Ev.bind e3 g3

def rowOf (T R m : Nat) : Nat × Nat := (m, if m < T then 0 else R)
def numsOf (t r : List Bool) (n : Nat) : List Nat := (List.range n).filter (hasB t r)
def xsOf (t r : List Bool) (n : Nat) : List (Nat × Nat) := (numsOf t r n).map (rowOf t.length r.length)
theorem dvd5 {R : Nat} (h0 : 0 < R) (h : R ≤ 5) : R ∣ 60 := by
  have : R = 1 ∨ R = 2 ∨ R = 3 ∨ R = 4 ∨ R = 5 := by omega
  rcases this with rfl | rfl | rfl | rfl | rfl <;> decide
theorem xs_ok {t r : List Bool} (ht : t.length ≤ 5) (h0 : 0 < r.length) (hr : r.length ≤ 5) {n : Nat} (hn : n ≤ 10) : ∀ x ∈ xsOf t r n, RowOk x := by
  intro x hx
  obtain ⟨m, hm, rfl⟩ := List.mem_map.1 hx
  have := List.mem_range.1 (List.mem_filter.1 hm).1
  refine ⟨by show m ≤ 59; omega, ?_⟩
  show (if m < t.length then 0 else r.length) = 0 ∨ _ ∣ 60
  by_cases c : m < t.length
  · left; rw [if_pos c]
  · right
    show (if m < t.length then 0 else r.length) ∣ 60
    rw [if_neg c]; exact dvd5 h0 hr
theorem nums_len (t r : List Bool) (n : Nat) : (numsOf t r n).length ≤ n := Nat.le_trans (List.length_filter_le _ _) (by simp)
theorem listM_nums (t r : List Bool) (n : Nat) : listM (hasB t r) n = (numsOf t r n).map fun x : Nat => (x : Int) := rfl
theorem rowsIn_ev {xs : List (Nat × Nat)} (hx : ∀ x ∈ xs, RowOk x) (hlen : xs.length ≤ 20) : Ev (fun k => impl_RowsIn.f k (xs.map rowI)) true := by
  unfold impl_RowsIn.f
  exact Ev.bind (rowsOf_ok hx hlen) (Ev.now _)
theorem rowsOf_impl_l0 {t r : List Bool} (hr : r.length ≤ 60) (ms : List Nat) (hms : ms.length ≤ 20) {y : List (List Int) × Bool}
    (hy : Ev (fun k => (impl_RowsIn.f k ((ms.map (rowOf t.length r.length)).map rowI)).bind fun b => (if b = true then (some ((ms.map (rowOf t.length r.length)).map rowI, true)) else (some (([] : List (List Int)), false)))) y) (d : Nat) : ∀ i, i + d = ms.length →
    Ev (fun k => impl_RowsOf.l0 k (((ms.take i).map (rowOf t.length r.length)).map rowI) (ms.map fun x : Nat => (x : Int)) (ms.length : Int) (i : Int) t r) y := by
  induction d with
  | zero =>
    intro i hi
    obtain rfl : i = ms.length := by omega
    rw [List.take_length]
    refine Ev.step (fun k => ?_) hy
    simp only [impl_RowsOf.l0]
    rw [if_neg (by omega)]
  | succ d ih =>
    intro i hi
    have k1 := ih (i + 1) (by omega)
    have hlt : i < ms.length := by omega
    rw [List.take_succ_eq_append_getElem hlt, List.map_append, List.map_append] at k1
    have e1 : rd (ms.map fun x : Nat => (x : Int)) (i : Int) = ((ms[i] : Nat) : Int) := by simp [rd, List.getD, hlt]
    refine Ev.step (fun k => ?_) k1
    simp only [impl_RowsOf.l0, e1, List.length_map, List.length_take]
    rw [if_pos (by omega), if_pos (by omega), if_pos (by omega), wr1 (by omega)]
    generalize ms[i] = m
    by_cases c : m < t.length
    · rw [if_neg (by omega), if_pos (by omega)]
      have : rowI (rowOf t.length r.length m) = [(m : Int), 0] := by unfold rowI rowOf; rw [if_pos c]; rfl
      simp only [List.map_cons, List.map_nil, this]
    · rw [if_pos (by omega), if_pos (by omega)]
      have : rowI (rowOf t.length r.length m) = [(m : Int), (r.length : Int)] := by unfold rowI rowOf; rw [if_neg c]
      simp only [List.map_cons, List.map_nil, this]
theorem nums_succ (t r : List Bool) (n : Nat) : numsOf t r (n + 1) = numsOf t r n ++ (if hasB t r n = true then [n] else []) := by
  unfold numsOf
  rw [List.range_succ, List.filter_append]
  congr 1
  cases h : hasB t r n <;> simp [h]
theorem rowsOf_spec_l0 {t r : List Bool} (g : Good t r) (ht : t.length ≤ 5) (hr : r.length ≤ 5) (d : Nat) : ∀ n, n + d = t.length + r.length → Ev (fun k => spec_RowsOf.l0 k ((xsOf t r n).map rowI) (t.length : Int) (n : Int) t r) ((xsOf t r (t.length + r.length)).map rowI, true) := by
  have hw : wrap64 ((t.length : Int) + (r.length : Int)) = ((t.length + r.length : Nat) : Int) := by rw [wr (by omega) (by omega)]; omega
  have h0 := g.pos
  induction d with
  | zero =>
    intro n hn
    obtain rfl : n = t.length + r.length := by omega
    have hl := nums_len t r (t.length + r.length)
    have k1 := l3Rows_ev (rows := (xsOf t r (t.length + r.length)).map rowI) (by rw [List.length_map]; unfold xsOf; rw [List.length_map]; omega)
    rw [all_rowI (xs_ok ht h0 hr (by omega))] at k1
    refine Ev.step (f := fun k => (spec_l3Rows.f k ((xsOf t r (t.length + r.length)).map rowI)).bind fun b => (if b = true then (some ((xsOf t r (t.length + r.length)).map rowI, true)) else (some ((([] : List (List Int))), false)))) (fun k => ?_) (Ev.bind k1 (Ev.now _))
    simp only [spec_RowsOf.l0, hw]
    rw [if_neg (by omega)]
  | succ d ih =>
    intro n hn
    have k1 := ih (n + 1) (by omega)
    have hl := nums_len t r n
    have hxl : ((xsOf t r n).map rowI).length < 5864062014805 := by rw [List.length_map]; unfold xsOf; rw [List.length_map]; omega
    refine Ev.step (fun k => ?_) k1
    have hs : xsOf t r (n + 1) = xsOf t r n ++ (if hasB t r n = true then [rowOf t.length r.length n] else []) := by
      unfold xsOf
      rw [nums_succ, List.map_append]
      congr 1
      cases hasB t r n <;> rfl
    simp only [spec_RowsOf.l0, hw, l1_has g n (by omega), Option.bind_some]
    rw [if_pos (by omega), hs, wr1 (by omega)]
    cases hb : hasB t r n with
    | false => simp
    | true =>
      simp only [if_true, List.map_append, List.map_cons, List.map_nil]
      by_cases c : n < t.length
      · rw [if_pos (by omega), if_pos hxl]
        have : rowI (rowOf t.length r.length n) = [(n : Int), 0] := by unfold rowI rowOf; rw [if_pos c]; rfl
        rw [this]
      · rw [if_neg (by omega), if_pos hxl]
        have : rowI (rowOf t.length r.length n) = [(n : Int), (r.length : Int)] := by unfold rowI rowOf; rw [if_neg c]
        rw [this]
theorem tidied7 {s : ByteArray} {t0 r0 t r : List Bool} (h : IsSet s t0 r0) (hT : Tidied t0 r0 t r) : Ev (fun k => impl_tidied.f k s) (t, r, true) := by
  unfold impl_tidied.f
  rw [h.impl]; simp only [Option.bind_some, if_true]
  exact Ev.bind hT.impl (Ev.now _)
theorem setTidy7 {s : ByteArray} {t0 r0 t r : List Bool} (h : IsSet s t0 r0) (hT : Tidied t0 r0 t r) : Ev (fun k => impl_SetTidy.f k s) (text t r, true) := by
  unfold impl_SetTidy.f
  refine Ev.bind (tidied7 h hT) ?_
  simp only [if_true]
  exact Ev.bind (text_ev hT.good.tl hT.good.rl) (Ev.now _)
theorem rowsOf_both {s : ByteArray} {t0 r0 t r : List Bool} (h : IsSet s t0 r0) (hT : Tidied t0 r0 t r) (ht : t.length ≤ 5) (hr : r.length ≤ 5) : Ev (fun k => impl_RowsOf.f k s) ((xsOf t r (t.length + r.length)).map rowI, true) ∧ Ev (fun k => spec_RowsOf.f k s) ((xsOf t r (t.length + r.length)).map rowI, true) := by
  have g := hT.good
  have h0 := g.pos
  have hw : wrap64 ((t.length : Int) + (r.length : Int)) = ((t.length + r.length : Nat) : Int) := by rw [wr (by omega) (by omega)]; omega
  have hl := nums_len t r (t.length + r.length)
  constructor
  · unfold impl_RowsOf.f
    refine Ev.bind (tidied7 h hT) ?_
    simp only [if_true, hw]
    refine Ev.bind (below_ev g (t.length + r.length) (by omega)) ?_
    have k1 := rowsOf_impl_l0 (t := t) (r := r) (by omega) (numsOf t r (t.length + r.length)) (by omega) (Ev.bind (rowsIn_ev (xs := xsOf t r (t.length + r.length)) (xs_ok ht h0 hr (by omega)) (by unfold xsOf; rw [List.length_map]; omega)) (Ev.now _)) (numsOf t r (t.length + r.length)).length 0 (by omega)
    have e : ((listM (hasB t r) (t.length + r.length)).length : Int) = ((numsOf t r (t.length + r.length)).length : Int) := by rw [listM_nums, List.length_map]
    simp only [e]
    exact k1
  · unfold spec_RowsOf.f
    simp only [Option.bind_some]
    refine Ev.bind h.spec ?_
    simp only [if_true]
    refine Ev.bind hT.spec ?_
    exact rowsOf_spec_l0 g ht hr (t.length + r.length) 0 (by omega)
theorem rowsOf_no {s : ByteArray} (h : NoSet s) : Ev (fun k => impl_RowsOf.f k s) (([] : List (List Int)), false) ∧ Ev (fun k => spec_RowsOf.f k s) (([] : List (List Int)), false) := by
  obtain ⟨⟨a, b, e1⟩, ⟨c, d, e2⟩⟩ := h
  constructor
  · unfold impl_RowsOf.f impl_tidied.f
    rw [e1]
    simp only [Option.bind_some, Bool.false_eq_true, if_false]
    exact Ev.now _
  · unfold spec_RowsOf.f
    simp only [Option.bind_some]
    refine Ev.bind e2 ?_
    simp only [Bool.false_eq_true, if_false]
    exact Ev.now _

theorem hasN_row {T R m n : Nat} (hR : 0 < R) (hm : m < T + R) : hasN (rowOf T R m) n = (m == (if n < T then n else T + (n - T) % R)) := by
  unfold hasN rowOf
  by_cases c : m < T
  · rw [if_pos c]
    show (if (0 : Nat) = 0 then n == m else _) = _
    rw [if_pos rfl, Bool.eq_iff_iff, beq_iff_eq, beq_iff_eq]
    by_cases c2 : n < T
    · rw [if_pos c2]; omega
    · rw [if_neg c2]; omega
  · rw [if_neg c]
    show (if R = 0 then n == m else decide (m ≤ n) && ((n - m) % R == 0)) = _
    rw [if_neg (by omega), Bool.eq_iff_iff, Bool.and_eq_true, decide_eq_true_eq, beq_iff_eq, beq_iff_eq]
    by_cases c2 : n < T
    · rw [if_pos c2]; omega
    · rw [if_neg c2]
      constructor
      · rintro ⟨h1, h2⟩
        have := mod_of_dvd_sub (n := n - T) (z := m - T) (by omega) (by rw [show n - T - (m - T) = n - m by omega]; exact Nat.dvd_of_mod_eq_zero h2)
        rw [Nat.mod_eq_of_lt (show m - T < R by omega)] at this
        omega
      · intro h
        have hle := Nat.mod_le (n - T) R
        refine ⟨by omega, ?_⟩
        rw [show n - m = (n - T) - (n - T) % R by omega]
        exact Nat.sub_mod_eq_zero_of_mod_eq (by rw [Nat.mod_mod])
theorem count_one (a : Nat) (c : Bool) : ∀ N, (List.range N).countP (fun m => (m == a) && c) = if a < N ∧ c = true then 1 else 0 := by
  intro N
  induction N with
  | zero => simp
  | succ N ih =>
    rw [List.range_succ, List.countP_append, ih, List.countP_cons, List.countP_nil]
    cases c with
    | false => simp
    | true =>
      by_cases e : N = a
      · subst e; simp
      · have : (N == a) = false := beq_eq_false_iff_ne.2 e
        simp only [this, Bool.false_and, Bool.false_eq_true, if_false, and_true, Nat.add_zero]
        by_cases e2 : a < N
        · rw [if_pos e2, if_pos (by omega)]
        · rw [if_neg e2, if_neg (by omega)]
theorem cnt_xs {t r : List Bool} (h0 : 0 < r.length) (n : Nat) : cntN (xsOf t r (t.length + r.length)) n = if hasB t r n = true then 1 else 0 := by
  have hidx : ∀ q, q = (if n < t.length then n else t.length + (n - t.length) % r.length) → q < t.length + r.length ∧ hasB t r q = hasB t r n := by
    intro q hq
    by_cases c : n < t.length
    · rw [if_pos c] at hq; subst hq; exact ⟨by omega, rfl⟩
    · rw [if_neg c] at hq
      have := Nat.mod_lt (n - t.length) h0
      refine ⟨by omega, ?_⟩
      rw [hq, hasB_add, hasB_ge (by omega), Nat.mod_mod]
  obtain ⟨q, hq⟩ : ∃ q, q = (if n < t.length then n else t.length + (n - t.length) % r.length) := ⟨_, rfl⟩
  obtain ⟨h1, h2⟩ := hidx q hq
  have e : cntN (xsOf t r (t.length + r.length)) n = (List.range (t.length + r.length)).countP fun m => (m == q) && hasB t r q := by
    unfold cntN xsOf numsOf
    rw [List.countP_map, List.countP_filter]
    refine List.countP_congr fun m hm => ?_
    have hm2 := List.mem_range.1 hm
    show (hasN (rowOf t.length r.length m) n && hasB t r m) = true ↔ ((m == q) && hasB t r q) = true
    rw [hasN_row h0 hm2, ← hq, Bool.and_eq_true, Bool.and_eq_true, beq_iff_eq]
    exact ⟨fun ⟨a, b⟩ => ⟨a, a ▸ b⟩, fun ⟨a, b⟩ => ⟨a, a ▸ b⟩⟩
  rw [e, count_one, h2]
  simp only [h1, true_and]
theorem any_xs {t r : List Bool} (h0 : 0 < r.length) (n : Nat) : anyN (xsOf t r (t.length + r.length)) n = hasB t r n := by
  unfold anyN
  rw [cnt_xs h0]
  cases hasB t r n <;> rfl
theorem ge_count (T : Nat) (d : Nat) : (List.range (T + d)).countP (fun m => decide (T ≤ m)) ≤ d := by
  induction d with
  | zero =>
    have : (List.range (T + 0)).countP (fun m => decide (T ≤ m)) = 0 := List.countP_eq_zero.2 fun m hm h => by
      have := List.mem_range.1 hm
      have := of_decide_eq_true h
      omega
    omega
  | succ d ih =>
    rw [show T + (d + 1) = (T + d) + 1 by omega, List.range_succ, List.countP_append]
    have : List.countP (fun m => decide (T ≤ m)) [T + d] ≤ 1 := List.countP_le_length
    omega
theorem mov_xs (t r : List Bool) : (movN (xsOf t r (t.length + r.length))).length ≤ r.length := by
  refine Nat.le_trans ?_ (ge_count t.length r.length)
  unfold movN xsOf numsOf
  rw [← List.countP_eq_length_filter, List.countP_map, List.countP_filter]
  refine List.countP_mono_left fun m _ h => ?_
  have h' : (!((if m < t.length then 0 else r.length) == 0) && hasB t r m) = true := h
  rw [Bool.and_eq_true] at h'
  rw [decide_eq_true_eq]
  refine Decidable.byContradiction fun c => ?_
  rw [if_pos (by omega)] at h'
  simp at h'

theorem same7_l0 (l : List Int) (hl : l.length ≤ 1000000) (d : Nat) : ∀ i, i + d = l.length → Ev (fun k => laws_sameInts.l0 k l l (i : Nat)) true := by
  induction d with
  | zero =>
    intro i hi
    refine Ev.end fun k => ?_
    simp only [laws_sameInts.l0]
    rw [if_neg (by omega)]
  | succ d ih =>
    intro i hi
    refine Ev.step (f := fun k => laws_sameInts.l0 k l l ((i + 1 : Nat) : Int)) (fun k => ?_) (ih (i + 1) (by omega))
    simp only [laws_sameInts.l0]
    rw [if_pos (by omega), if_pos (by omega), if_pos (by omega), if_pos trivial, wr (x := (i : Int) + 1) (by omega) (by omega), show (i : Int) + 1 = ((i + 1 : Nat) : Int) by omega]
theorem same7_ev (l : List Int) (hl : l.length ≤ 1000000) : Ev (fun k => laws_sameInts.f k l l) true := by
  unfold laws_sameInts.f
  simp only [if_true]
  exact same7_l0 l hl l.length 0 (by omega)
theorem sameRows_l0 (xs : List (Nat × Nat)) (hl : xs.length ≤ 1000) (d : Nat) : ∀ i, i + d = xs.length → Ev (fun k => laws_sameRows.l0 k (xs.map rowI) (xs.map rowI) (i : Nat)) true := by
  induction d with
  | zero =>
    intro i hi
    refine Ev.end fun k => ?_
    simp only [laws_sameRows.l0, List.length_map]
    rw [if_neg (by omega)]
  | succ d ih =>
    intro i hi
    obtain ⟨x, _, h1, _, _⟩ := drop_rowI xs i (by omega)
    refine Ev.step (f := fun k => (laws_sameInts.f k (rowI x) (rowI x)).bind fun b => (if b = true then laws_sameRows.l0 k (xs.map rowI) (xs.map rowI) ((i + 1 : Nat) : Int) else some false)) (fun k => ?_) (Ev.bind (same7_ev (rowI x) (by show 2 ≤ 1000000; decide)) (ih (i + 1) (by omega)))
    simp only [laws_sameRows.l0, List.length_map, h1]
    rw [if_pos (by omega), if_pos (by omega), if_pos (by omega), wr1 (by omega)]
theorem sameRows_ev (xs : List (Nat × Nat)) (hl : xs.length ≤ 1000) : Ev (fun k => laws_sameRows.f k (xs.map rowI) (xs.map rowI)) true := by
  unfold laws_sameRows.f
  simp only [if_true]
  exact sameRows_l0 xs hl xs.length 0 (by omega)

end Go.Proofs.Ytdoghlojgofmaaa.Q

namespace Go.Proofs.Ytdoghlojgofmaaa.Pure
open Go.RowKit Go.Proofs.Ytdoghlojgofmaaa.Q Go.Proofs.YtdoghlojgofmaaaW.PrintWords Go.Proofs.YtdoghlojgofmaaaW.PrintLast Go.Proofs.Ytdoghlojgofmaaa.Pl
set_option linter.unusedSimpArgs false
theorem drawRowsOf_ev (l0 : List Int) (h : ∀ x ∈ l0, (Lit.int .u8 x).wf = true) : ∃ s : ByteArray, s.size ≤ 100 ∧ Small5 s ∧ Ev (fun k => spec_DrawRowsOf.f k l0) s := by
  obtain ⟨bs, hb, eo⟩ := open_ev l0 h
  obtain ⟨s, q, a, b, g⟩ := set_draw5 hb 0 (by omega)
  refine ⟨s, a, b, ?_⟩
  unfold spec_DrawRowsOf.f
  rw [eo]
  simp only [Option.bind_some]
  exact Ev.bind g (Ev.now _)
theorem ofLoop {t r : List Bool} (g : Go.Proofs.Ytdoghlojgofmaaa.Q.Good t r) (ht : t.length ≤ 5) (hr : r.length ≤ 5) (s : ByteArray) (d : Nat) : ∀ n, n + d = 101 → Ev (fun k => laws_FnRowsOf.l0 k ((xsOf t r (t.length + r.length)).map rowI) s true s true (n : Int)) true := by
  have hl := nums_len t r (t.length + r.length)
  induction d with
  | zero =>
    intro n hn
    refine Ev.end fun k => ?_
    simp only [laws_FnRowsOf.l0]
    rw [if_neg (by omega), if_pos trivial, if_pos trivial, beq_self_eq_true]
  | succ d ih =>
    intro n hn
    refine Ev.step (f := fun k => (impl_RowsHas.f k ((xsOf t r (t.length + r.length)).map rowI) (n : Int)).bind fun b => (if b.1 > 1 then some false else laws_FnRowsOf.l0 k ((xsOf t r (t.length + r.length)).map rowI) s true s true (wrap64 ((n : Int) + 1)))) (fun k => ?_) (Ev.bind (rowsHas_ev (xs_ok ht g.pos hr (by omega)) (by unfold xsOf; rw [List.length_map]; omega) (show n ≤ 10000 by omega)) ?_)
    · simp only [laws_FnRowsOf.l0]
      rw [if_pos (by omega)]
    · have hc : cntN (xsOf t r (t.length + r.length)) n ≤ 1 := by
        rw [cnt_xs g.pos]
        split <;> omega
      simp only [if_neg (show ¬ ((cntN (xsOf t r (t.length + r.length)) n : Nat) : Int) > 1 by omega)]
      rw [wr1 (by omega)]
      exact ih (n + 1) (by omega)
theorem FnRowsOf : laws_FnRowsOf.Pure := by
  intro l0 hm hy hw
  by_cases hz : (l0.length : Int) > 1048576
  · exact ⟨0, by unfold laws_FnRowsOf.f; rw [if_pos hz]⟩
  obtain ⟨s, hs, h5, e⟩ := drawRowsOf_ev l0 hw
  refine Ev.rounds ?_
  unfold laws_FnRowsOf.f
  simp only [if_neg hz]
  rcases read_cases s (by omega) with hn | ⟨t0, r0, hset⟩
  · obtain ⟨h1, h2⟩ := rowsOf_no hn
    have h3 := sameRows_ev [] (by simp)
    refine Ev.bind e (Ev.bind h1 (Ev.bind h2 (Ev.bind h3 ?_)))
    simp only [if_true, beq_self_eq_true]
    refine Ev.step (fun k => by rw [laws_FnRowsOf.j0]) ?_
    simp only [if_true]
    refine Ev.step (f := fun k => some true) (fun k => ?_) (Ev.now _)
    rw [laws_FnRowsOf.j1]; rfl
  · obtain ⟨t, r, hT⟩ := tidied hset.good
    obtain ⟨a, b⟩ := h5 t0 r0 hset
    have ht : t.length ≤ 5 := Nat.le_trans hT.tle a
    have hr : r.length ≤ 5 := Nat.le_trans hT.rle b
    have g := hT.good
    have hl := nums_len t r (t.length + r.length)
    have hxl : (xsOf t r (t.length + r.length)).length ≤ 10 := by unfold xsOf; rw [List.length_map]; omega
    obtain ⟨h1, h2⟩ := rowsOf_both hset hT ht hr
    have h3 := sameRows_ev (xsOf t r (t.length + r.length)) (by omega)
    obtain ⟨x, x1, x2⟩ := rowsSet_impl (xs_ok ht g.pos hr (n := t.length + r.length) (by omega)) (by omega) (Nat.le_trans (mov_xs t r) (by omega))
    have hx : x = (text t r, true) := (x2.congr fun n => any_xs g.pos n).unique (Told.of hT.canon g fun _ => rfl)
    subst hx
    refine Ev.bind e (Ev.bind h1 (Ev.bind h2 (Ev.bind h3 ?_)))
    simp only [if_true, beq_self_eq_true]
    refine Ev.step (fun k => by rw [laws_FnRowsOf.j0]) ?_
    simp only [if_true, Bool.not_true]
    refine Ev.step (fun k => by rw [laws_FnRowsOf.j1]) ?_
    simp only [Bool.false_eq_true, if_false]
    exact Ev.bind x1 (Ev.bind (setTidy7 hset hT) (ofLoop g ht hr (text t r) 101 0 (by omega)))

end Go.Proofs.Ytdoghlojgofmaaa.Pure
