/- The law FnProofRestIs holds for all that it draws. -/
import Derived.Test.YtinjblbfaijhdaaDoorCFnProofRestIs9
namespace Go.Proofs.YtinjblbfaijhdaaDoor.Q
open Go.RowKit Go.Proofs.YtinjblbfaijhdaaDoorW.PrintWords Go.Proofs.YtinjblbfaijhdaaDoorW.PrintLast Go.Proofs.YtinjblbfaijhdaaDoorW.PrintMore
attribute [local go_sem] max2_int min2_int max_two min_two max_three min_three max_four min_four   -- for this text's walks alone
set_option linter.unusedVariables false
set_option linter.unusedSimpArgs false
def impl_set_divisor.l0 : Nat → Int → List Int → Int → Int → Option (Int)
 | 0, _, _, _, _ => none
 | k + 1, x3, x15, x16, x17 => if x17 < x16 then (if 0 ≤ x17 then (if x17 < (x15.length : Int) then ((impl_gcd.f k x3 (rd x15 x17)).bind fun t232 => (impl_set_divisor.l0 k t232 x15 x16 (wrap64 (x17 + 1)))) else (none)) else (none)) else (some x3)
def impl_set_divisor.f (k : Nat) (l0_0 : List Bool) (l0_1 : List Bool) : Option (Int) := (impl_set_below.f k l0_0 l0_1 (wrap64 ((l0_0.length : Int) + (wrap64 (2 * (l0_1.length : Int)))))).bind fun t228 => (impl_set_divisor.l0 k 0 t228 (t228.length : Int) 0)
theorem impl_set_divisor.mono_l : ∀ k, (∀ y0 y1 y2 y3, LeO (impl_set_divisor.l0 k y0 y1 y2 y3) (impl_set_divisor.l0 (k + 1) y0 y1 y2 y3))
 | 0 => fun _ _ _ _ r h => by simp [impl_set_divisor.l0] at h
 | k + 1 => by
  have ih0 := impl_set_divisor.mono_l k
  ·intro y0 y1 y2 y3
   unfold impl_set_divisor.l0
   repeat' first | (with_reducible exact ih0 _ _ _ _) | (with_reducible exact impl_gcd.mono _ _ _) | (with_reducible exact LeO.refl _) | (with_reducible refine LeO.ite ?_ ?_) | (with_reducible refine LeO.bind ?_ (fun _ => ?_))
theorem impl_set_divisor.mono : ∀ a0 a1 k, LeO (impl_set_divisor.f k a0 a1) (impl_set_divisor.f (k + 1) a0 a1) := by
 intro a0 a1 k
 have ih0 := impl_set_divisor.mono_l k
 unfold impl_set_divisor.f
 repeat' first | (with_reducible exact ih0 _ _ _ _) | (with_reducible exact impl_set_below.mono _ _ _ _) | (with_reducible refine LeO.bind ?_ (fun _ => ?_))
set_option maxHeartbeats 8000000 in
set_option maxRecDepth 100000 in
theorem impl_set_divisor.calls (k : Nat) (A0_0 : Option Addr) (c0_0 : Nat) (l0_0 : List Bool) (A0_1 : Option Addr) (c0_1 : Nat) (l0_1 : List Bool) (r : Int) (w : World) (hr0_0 : Kd.C Kd.bool w A0_0 l0_0.length l0_0) (hc0_0 : l0_0.length ≤ c0_0) (hr0_1 : Kd.C Kd.bool w A0_1 l0_1.length l0_1) (hc0_1 : l0_1.length ≤ c0_1) (h : impl_set_divisor.f k l0_0 l0_1 = some r) :
  Calls Tryd.prog 42 #[.agg #[.slice A0_0 l0_0.length c0_0, .slice A0_1 l0_1.length c0_1]] w fun e w' => e = .returned (.int .i64 r) ∧ Below w.heap.size w w' := by
 have hu49 := Tryd.underlying49
 have HR0_0 := Aside0.mk hr0_0
 have HC0_0 := Aside0.mk hc0_0
 clear hr0_0 hc0_0
 have HR0_1 := Aside0.mk hr0_1
 have HC0_1 := Aside0.mk hc0_1
 clear hr0_1 hc0_1
 have HB := Aside0.mk (Below.refl w.heap.size w)
 have H : ((impl_set_below.f k l0_0 l0_1 (wrap64 ((l0_0.length : Int) + (wrap64 (2 * (l0_1.length : Int)))))).bind fun t228 => (impl_set_divisor.l0 k 0 t228 (t228.length : Int) 0)) = some r := h
 clear h
 replace H := Option.bind_eq_some_iff.mp H
 obtain ⟨t228, A20, H⟩ := H
 replace H : (impl_set_divisor.l0 k 0 t228 (t228.length : Int) 0) = some r := H
 have A2 := Aside0.mk A20
 clear A20
 have H' := Aside0.mk H
 clear H
 go_enter Tryd.func42, Tryd.ntmps42
 go_wp2_with (first | ((with_reducible refine gate_dst (N := 1) rfl ?_); refine box_event ?hg (N := 1) ?hd (cs := #[.slice A0_0 l0_0.length c0_0, .slice A0_1 l0_1.length c0_1]) (t := 49) ?hr ?_; (case hd => rfl); (case hg => rfl); (case hr => first | (go_simp; done)); intro gb227 hg w3 hbox hb; have BK227 := Aside0.mk hbox; have GW227 := Aside0.mk ((by rw [hg]; exact (below_size HB.out) : w.heap.size ≤ gb227)); have GE227 := Aside0.mk ((by rw [hg]; exact (below_size HB.out) : w.heap.size ≤ gb227)); replace HB := Aside0.mk (below_step HB.out hb); clear hb hbox hg; have hcz4_0 : w3.cell? ⟨gb227, 0, none⟩ = some (.slice A0_0 l0_0.length c0_0) := (blk_cell BK227.out 0).trans rfl; have hcz4_1 : w3.cell? ⟨gb227, 1, none⟩ = some (.slice A0_1 l0_1.length c0_1) := (blk_cell BK227.out 1).trans rfl; have hfz4_0 := blk_frozen BK227.out 0; have hfz4_1 := blk_frozen BK227.out 1) | ((with_reducible refine gate_callee (f := 51) rfl ?_); refine goesL_ (some 15) rfl rfl Tryd.func51 (by kernel_rfl) rfl #[.agg #[.slice A0_0 l0_0.length c0_0, .slice A0_1 l0_1.length c0_1], .int .i64 (wrap64 ((l0_0.length : Int) + (wrap64 (2 * (l0_1.length : Int)))))] rfl (by (try simp only [List.map_toArray, List.map_cons, List.map_nil]); rfl) ?_; (with_reducible refine (impl_set_below.calls k _ _ l0_0 _ _ l0_1 (wrap64 ((l0_0.length : Int) + (wrap64 (2 * (l0_1.length : Int))))) t228 _ ?side1 ?side2 ?side3 ?side4 A2.out).mono ?_); (case side1 => repeat (exact (Kd.C_below HR0_0.out HB.out))); (case side2 => exact HC0_0.out); (case side3 => repeat (exact (Kd.C_below HR0_1.out HB.out))); (case side4 => exact HC0_1.out); rintro e w5 ⟨v229, rfl, ho0, hb⟩; refine ⟨_, rfl, ?_⟩; have HO230 := Aside0.mk (Kd.R_lower ho0 (below_size HB.out)); replace BK227 := Aside0.mk (blk_below (g := gb227) (o := .cells #[.slice A0_0 l0_0.length c0_0, .slice A0_1 l0_1.length c0_1] 49 (0, 0)) BK227.out hb); replace HB := Aside0.mk (below_step HB.out hb); (try clear hb); (try clear ho0); obtain ⟨Ao6, co6, eo6⟩ := Kd.R_slice HO230.out; subst eo6))
 go_loopg [3, 17] k (fun kq v3 v17 w' => ∃ (x3_1 : Int) (x17_1 : Int), v3 = .int .i64 x3_1 ∧ v17 = .int .i64 x17_1 ∧ Aside0 (impl_set_divisor.l0 kq x3_1 t228 (t228.length : Int) x17_1 = some r) ∧ Aside0 (kq ≤ k) ∧ Aside0 (Kd.R (Kd.int .i64) 3 w' w.heap.size (fun _ => True) (.slice Ao6 t228.length co6) t228) ∧ Aside0 (w'.heap[gb227]? = some (.cells #[(.slice A0_0 l0_0.length c0_0), (.slice A0_1 l0_1.length c0_1)] 49 (0, 0))) ∧ Aside0 (Below w.heap.size w w'))
 case atStart => exact ⟨(0), (0), (by rfl), (by rfl), H', ⟨Nat.le_refl _⟩, ⟨by exact HO230.out⟩, ⟨by exact BK227.out⟩, ⟨HB.out⟩⟩
 case round =>
  clear H'
  try clear hcz4_0
  try clear hcz4_1
  try clear hfz4_0
  try clear hfz4_1
  obtain ⟨x3_1, x17_1, rfl, rfl, HA, HK1, HO_15, BK227, HB⟩ := hrel
  cases gk with
  | zero => exact absurd HA.out (by simp [impl_set_divisor.l0])
  | succ k1 =>
   have H := HA.out
   clear HA
   simp only [impl_set_divisor.l0] at H
   by_cases c7 : x17_1 < (t228.length : Int)
   ·rw [if_pos c7] at H
    have c7b0 : decide (x17_1 < (t228.length : Int)) = true := decide_eq_true c7
    clear c7
    by_cases c8 : 0 ≤ x17_1
    ·rw [if_pos c8] at H
     have c8b0 : decide (0 ≤ x17_1) = true := decide_eq_true c8
     clear c8
     by_cases c9 : x17_1 < (t228.length : Int)
     ·rw [if_pos c9] at H
      have c9b0 : decide (x17_1 < (t228.length : Int)) = true := decide_eq_true c9
      clear c9
      replace H := Option.bind_eq_some_iff.mp H
      obtain ⟨t232, A100, H⟩ := H
      replace H : (impl_set_divisor.l0 k1 t232 t228 (t228.length : Int) (wrap64 (x17_1 + 1))) = some r := H
      have A10 := Aside0.mk A100
      clear A100
      have H' := Aside0.mk H
      clear H
      have p231 : 0 ≤ (x17_1 : Int) := of_decide_eq_true (by (with_reducible assumption))
      have q231 : x17_1 < (t228.length : Int) := of_decide_eq_true (by (with_reducible assumption))
      obtain ⟨ad231, e231, hx231_0⟩ := Kd.at_int (Kd.R_reads' HO_15.out).2.2 x17_1 p231 q231
      cases e231
      replace p231 := eq_true p231
      replace q231 := eq_true q231
      go_wp2_with (first | ((with_reducible refine gate_callee (f := 67) rfl ?_); refine goesL_ (some 23) rfl rfl Tryd.func67 (by kernel_rfl) rfl #[.int .i64 x3_1, .int .i64 (rd t228 x17_1)] rfl (by (try simp only [List.map_toArray, List.map_cons, List.map_nil]); rfl) ?_; (with_reducible refine (impl_gcd.calls k1 x3_1 (rd t228 x17_1) t232 _ A10.out).mono ?_); rintro e w' ⟨rfl, ⟨nd, rfl⟩⟩; refine ⟨_, rfl, ?_⟩))
      go_roundg k1
      case measure => have := HK1.out; omega
      case rel => exact ⟨(t232), (wrap64 (x17_1 + 1)), (by rfl), (by rfl), H', ⟨by have := HK1.out; omega⟩, ⟨by (with_reducible repeat (apply Kd.R_drewN)); exact HO_15.out⟩, ⟨by (with_reducible repeat (refine blk_drewN ?_ _)); exact BK227.out⟩, ⟨by repeat (first | (with_reducible first | exact HB.out | apply pw_below_drewN))⟩⟩
     ·rw [if_neg c9] at H
      exact absurd H (by simp)
    ·rw [if_neg c8] at H
     exact absurd H (by simp)
   ·rw [if_neg c7] at H
    have c7b0 : decide (x17_1 < (t228.length : Int)) = false := decide_eq_false c7
    clear c7
    obtain rfl := Option.some.inj H
    go_wp2
    go_ret
    exact ⟨by first | rfl | (simp [*, errW_none, errW_some] <;> rfl), HB.out⟩


theorem slices_IndexFunc_int_int.goesVL_ {P : Program} {ops : Array Oper} {Q : Exit → Act → World → Prop} {rest : List Oper} {oi : Oper} {a : Act} {w : World} (N : Option Tmp) (hd : oi.dst = N) (hg : oi.guard = none) {c : Operand} {g : FuncId} {lb : Array Value} (eg : ∀ args w, (callFunc g args).run P w = .ok (.enter g args) w) {ars : Array Operand} {ts : Array TypeId} (args : Array Value)
  (hop : oi.op = .call { callee := .value c, args := ars, argTypes := ts }) (hc : a.eval c = .func (.func g) #[] lb) (hargs : ars.map a.eval = args)
  (h : Calls P g (args ++ lb) w fun e w' => ∃ v, e = .returned v ∧ wpList P ops Q rest (a.put N v) w') : wpList P ops Q (oi :: rest) a w := by
 refine wpList_plain hg fun K hK => ?_
 have he := eg (args ++ lb) w
 have hrun : (execOp a.eval oi).run P w = .ok (.enter g (args ++ lb)) w := by
  unfold execOp
  simp [hop, hc, resolve, Deferred.ofValue, invoke, hargs, he]
 unfold Oper.wp
 rw [hrun, Oper.upon_enter]
 refine h.mono fun e w'' hh => ?_
 obtain ⟨v, rfl, hk⟩ := hh
 subst hd
 exact hK _ _ hk
def slices_IndexFunc_int_int.l0 (p_ : Int → Option Bool) : Nat → List Int → Int → Int → Option (Int)
 | 0, _, _, _ => none
 | k + 1, x0, x7, x8 => if x8 < x7 then (if 0 ≤ x8 then (if x8 < (x0.length : Int) then ((p_ (rd x0 x8)).bind fun t399 => (if t399 = true then (some x8) else (slices_IndexFunc_int_int.l0 p_ k x0 x7 (wrap64 (x8 + 1))))) else (none)) else (none)) else (some (-1))
def slices_IndexFunc_int_int.f (k : Nat) (l0 : List Int) (p_ : Int → Option Bool) : Option (Int) := slices_IndexFunc_int_int.l0 p_ k l0 (l0.length : Int) 0
theorem slices_IndexFunc_int_int.mono_l (p_ q_ : Int → Option Bool) (hp_ : ∀ n, LeO (p_ n) (q_ n)) : ∀ k, (∀ y0 y1 y2, LeO (slices_IndexFunc_int_int.l0 p_ k y0 y1 y2) (slices_IndexFunc_int_int.l0 q_ (k + 1) y0 y1 y2))
 | 0 => fun _ _ _ r h => by simp [slices_IndexFunc_int_int.l0] at h
 | k + 1 => by
  have ih0 := slices_IndexFunc_int_int.mono_l p_ q_ hp_ k
  ·intro y0 y1 y2
   unfold slices_IndexFunc_int_int.l0
   repeat' first
   |(with_reducible exact hp_ _)
   |(with_reducible exact ih0 _ _ _)
   |(with_reducible exact LeO.refl _)
   |(with_reducible exact LeO.none _)
   |(with_reducible refine LeO.ite ?_ ?_)
   |(with_reducible refine LeO.bind ?_ (fun _ => ?_))
   |exact ih0 _ _ _
   |exact LeO.none _
   |refine LeO.ite ?_ ?_
   |refine LeO.bind ?_ (fun _ => ?_)
theorem slices_IndexFunc_int_int.mono (p_ q_ : Int → Option Bool) (hp_ : ∀ n, LeO (p_ n) (q_ n)) : ∀ a0 k, LeO (slices_IndexFunc_int_int.f k a0 p_) (slices_IndexFunc_int_int.f (k + 1) a0 q_) := by
 intro a0 k
 have ih0 := slices_IndexFunc_int_int.mono_l p_ q_ hp_ k
 unfold slices_IndexFunc_int_int.f
 repeat' first
 |(with_reducible exact hp_ _)
   |(with_reducible exact ih0 _ _ _)
   |(with_reducible exact LeO.refl _)
   |(with_reducible exact LeO.none _)
   |(with_reducible refine LeO.ite ?_ ?_)
   |(with_reducible refine LeO.bind ?_ (fun _ => ?_))
   |exact ih0 _ _ _
   |exact LeO.none _
   |refine LeO.ite ?_ ?_
   |refine LeO.bind ?_ (fun _ => ?_)
set_option maxHeartbeats 8000000 in
set_option maxRecDepth 100000 in
theorem slices_IndexFunc_int_int.calls (k : Nat) (A0 : Option Addr) (c0 : Nat) (l0 : List Int) (p_ : Int → Option Bool) (g_ : Nat) (lb_ : Array Value) (r : Int) (w : World) (hr0 : Kd.C (Kd.int .i64) w A0 l0.length l0) (hc0 : l0.length ≤ c0) (eg_ : ∀ args w, (callFunc g_ args).run Tryd.prog w = .ok (.enter g_ args) w) (hp_ : ∀ (n : Int) (b : Bool) (W : World), Below w.heap.size w W → p_ n = some b → Calls Tryd.prog g_ (#[.int .i64 n] ++ lb_) W fun e W' => e = .returned (.bool b) ∧ Below W.heap.size W W') (h : slices_IndexFunc_int_int.f k l0 p_ = some r) :
  Calls Tryd.prog 74 #[.slice A0 l0.length c0, .func (.func g_) #[] lb_] w fun e w' => e = .returned (.int .i64 r) ∧ Below w.heap.size w w' := by
 have HR0 := Aside0.mk hr0
 have HC0 := Aside0.mk hc0
 clear hr0 hc0
 have HB := Aside0.mk (Below.refl w.heap.size w)
 have H : (slices_IndexFunc_int_int.l0 p_ k l0 (l0.length : Int) 0) = some r := h
 clear h
 have H' := Aside0.mk H
 clear H
 go_enter Tryd.func74, Tryd.ntmps74
 go_wp2
 go_loopg [8] k (fun kq v8 w' => ∃ (x8_1 : Int), v8 = .int .i64 x8_1 ∧ Aside0 (slices_IndexFunc_int_int.l0 p_ kq l0 (l0.length : Int) x8_1 = some r) ∧ Aside0 (kq ≤ k) ∧ Aside0 (Below w.heap.size w w'))
 case atStart => exact ⟨(0), (by first | rfl | (simp; done) | (simp [*]; done) | (simp [Int.tmod_eq_emod_of_nonneg]; done)), H', ⟨Nat.le_refl _⟩, ⟨by repeat (first | (with_reducible first | exact HB.out | apply below_alloc | apply pw_below_drewN | apply below_drew1) | exact HB.out)⟩⟩
 case round =>
  clear H'
  try clear p2
  obtain ⟨x8_1, rfl, HA, HK1, HB⟩ := hrel
  cases gk with
  | zero => exact absurd HA.out (by simp [slices_IndexFunc_int_int.l0])
  | succ k1 =>
   have H := HA.out
   clear HA
   simp only [slices_IndexFunc_int_int.l0] at H
   by_cases c3 : x8_1 < (l0.length : Int)
   ·rw [if_pos c3] at H
    have c3b0 : decide (x8_1 < (l0.length : Int)) = true := decide_eq_true c3
    clear c3
    by_cases c4 : 0 ≤ x8_1
    ·rw [if_pos c4] at H
     have c4b0 : decide (0 ≤ x8_1) = true := decide_eq_true c4
     clear c4
     by_cases c5 : x8_1 < (l0.length : Int)
     ·rw [if_pos c5] at H
      have c5b0 : decide (x8_1 < (l0.length : Int)) = true := decide_eq_true c5
      clear c5
      replace H := Option.bind_eq_some_iff.mp H
      obtain ⟨t399, A60, H⟩ := H
      replace H : (if t399 = true then (some x8_1) else (slices_IndexFunc_int_int.l0 p_ k1 l0 (l0.length : Int) (wrap64 (x8_1 + 1)))) = some r := H
      have A6 := Aside0.mk A60
      clear A60
      by_cases c7 : t399 = true
      all_goals
       first
       |replace c7 := Bool.eq_false_iff.mpr c7
       |skip
       subst c7
       first
       |have H1 : (some x8_1) = some r := by rw [if_pos rfl] at H; exact H
       |have H1 : (slices_IndexFunc_int_int.l0 p_ k1 l0 (l0.length : Int) (wrap64 (x8_1 + 1))) = some r := by rw [if_neg (show ¬ (false = true) by decide)] at H; exact H
       clear H
       have H := H1
       clear H1
       first
       |obtain rfl := Option.some.inj H
       |have H' := Aside0.mk H
        clear H
       have p398 : 0 ≤ (x8_1 : Int) := of_decide_eq_true (by first | (with_reducible assumption) | assumption)
       have q398 : x8_1 < (l0.length : Int) := of_decide_eq_true (by first | (with_reducible assumption) | assumption)
       obtain ⟨ad398, e398, hx398_0⟩ := Kd.at_int HR0.out x8_1 p398 q398
       cases e398
       replace hx398_0 := (HB.out.cell (World.block_lt_of_cell? w _ hx398_0)).trans hx398_0
       replace p398 := eq_true p398
       replace q398 := eq_true q398
       go_wp2_with (first | (refine slices_IndexFunc_int_int.goesVL_ (some 16) rfl rfl eg_ #[.int .i64 (rd l0 x8_1)] rfl (by rfl) (by (try simp only [List.map_toArray, List.map_cons, List.map_nil]); first | done | rfl | (simp only [List.length_drop, List.length_take]; rfl)) ?_; (refine (hp_ (rd l0 x8_1) _ _ (by repeat (first | (with_reducible first | exact HB.out | apply below_alloc | apply pw_below_drewN | apply below_drew1) | exact HB.out)) A6.out).mono ?_); rintro e w8 ⟨rfl, hb⟩; refine ⟨_, rfl, ?_⟩; replace HB := Aside0.mk (below_step (by repeat (first | (with_reducible first | exact HB.out | apply below_alloc | apply pw_below_drewN | apply below_drew1) | exact HB.out)) hb); (try clear hb); (try clear hb2); (try clear hk); (try clear hi)))
       first
       |go_ret
        exact ⟨by first | rfl | (simp [errW_none, errW_some] <;> rfl) | (simp [errW_none, errW_some]; exact ⟨rfl, rfl⟩) | (simp [errW_none, errW_some]; exact ⟨rfl, rfl, rfl⟩) | (simp [*, errW_none, errW_some] <;> rfl), by repeat (first | (with_reducible first | exact HB.out | apply below_alloc | apply pw_below_drewN | apply below_drew1) | exact HB.out)⟩
       |go_roundg k1
        case measure => have := HK1.out; omega
        case rel => exact ⟨(wrap64 (x8_1 + 1)), (by first | rfl | (simp; done) | (simp [*]; done) | (simp [Int.tmod_eq_emod_of_nonneg]; done)), H', ⟨by have := HK1.out; omega⟩, ⟨by repeat (first | (with_reducible first | exact HB.out | apply below_alloc | apply pw_below_drewN | apply below_drew1) | exact HB.out)⟩⟩
     ·rw [if_neg c5] at H
      exact absurd H (by simp)
    ·rw [if_neg c4] at H
     exact absurd H (by simp)
   ·rw [if_neg c3] at H
    have c3b0 : decide (x8_1 < (l0.length : Int)) = false := decide_eq_false c3
    clear c3
    obtain rfl := Option.some.inj H
    go_wp2
    go_ret
    exact ⟨by first | rfl | (simp [errW_none, errW_some] <;> rfl) | (simp [errW_none, errW_some]; exact ⟨rfl, rfl⟩) | (simp [errW_none, errW_some]; exact ⟨rfl, rfl, rfl⟩) | (simp [*, errW_none, errW_some] <;> rfl), by repeat (first | (with_reducible first | exact HB.out | apply below_alloc | apply pw_below_drewN | apply below_drew1) | exact HB.out)⟩


mutual
def impl_star.l0 : Nat → List Bool → Int → Int → List Bool → List Bool → Option (List Bool)
 | 0, _, _, _, _, _ => none
 | k + 1, x5, x11, x12, x401000, x401001 => if x12 < x11 then (if 0 ≤ x12 then (if x12 < (x5.length : Int) then (impl_star.l1 k (x5.set (x12 : Int).toNat (x12 == 0)) x12 1 x11 x12 x401000 x401001) else (none)) else (none)) else (some x5)
def impl_star.l1 : Nat → List Bool → Int → Int → Int → Int → List Bool → List Bool → Option (List Bool)
 | 0, _, _, _, _, _, _, _ => none
 | k + 1, x5, x6, x7, x11, x12, x401000, x401001 => if x7 ≤ x6 then (if 0 ≤ x6 then (if x6 < (x5.length : Int) then (if rdOf false x5 x6 = true then (impl_star.l0 k x5 x11 (wrap64 (x12 + 1)) x401000 x401001) else ((impl_set_has.f x401000 x401001 x7).bind fun t406 => (if t406 = true then (if 0 ≤ (wrap64 (x6 - x7)) then (if (wrap64 (x6 - x7)) < (x5.length : Int) then (impl_star.l1 k (x5.set (x6 : Int).toNat (rdOf false x5 (wrap64 (x6 - x7)))) x6 (wrap64 (x7 + 1)) x11 x12 x401000 x401001) else (none)) else (none)) else (impl_star.l1 k (x5.set (x6 : Int).toNat false) x6 (wrap64 (x7 + 1)) x11 x12 x401000 x401001)))) else (none)) else (none)) else (impl_star.l0 k x5 x11 (wrap64 (x12 + 1)) x401000 x401001)
end
def impl_star.f (k : Nat) (l0_0 : List Bool) (l0_1 : List Bool) (a1 : Int) : Option (List Bool) := if 0 ≤ a1 then (if (a1 : Int).toNat ≤ 281474976710656 then ((some (List.replicate (a1 : Int).toNat false : List Bool)).bind fun y401 => (impl_star.l0 k y401 (y401.length : Int) 0 l0_0 l0_1)) else (none)) else (none)
theorem impl_star.mono_l : ∀ k, (∀ y0 y1 y2 y3 y4, LeO (impl_star.l0 k y0 y1 y2 y3 y4) (impl_star.l0 (k + 1) y0 y1 y2 y3 y4)) ∧ (∀ y0 y1 y2 y3 y4 y5 y6, LeO (impl_star.l1 k y0 y1 y2 y3 y4 y5 y6) (impl_star.l1 (k + 1) y0 y1 y2 y3 y4 y5 y6))
 | 0 => ⟨fun _ _ _ _ _ r h => by simp [impl_star.l0] at h, fun _ _ _ _ _ _ _ r h => by simp [impl_star.l1] at h⟩
 | k + 1 => by
  obtain ⟨ih0, ih1⟩ := impl_star.mono_l k
  refine ⟨?_, ?_⟩
  ·intro y0 y1 y2 y3 y4
   unfold impl_star.l0
   repeat' first | (with_reducible exact ih1 _ _ _ _ _ _ _) | (with_reducible exact LeO.refl _) | (with_reducible refine LeO.ite ?_ ?_)
  ·intro y0 y1 y2 y3 y4 y5 y6
   unfold impl_star.l1
   repeat' first | (with_reducible exact ih0 _ _ _ _ _) | (with_reducible exact ih1 _ _ _ _ _ _ _) | (with_reducible exact LeO.refl _) | (with_reducible refine LeO.ite ?_ ?_) | (with_reducible refine LeO.bind ?_ (fun _ => ?_))
theorem impl_star.mono : ∀ a0 a1 a2 k, LeO (impl_star.f k a0 a1 a2) (impl_star.f (k + 1) a0 a1 a2) := by
 intro a0 a1 a2 k
 obtain ⟨ih0, ih1⟩ := impl_star.mono_l k
 unfold impl_star.f
 repeat' first | (with_reducible exact ih0 _ _ _ _ _) | (with_reducible exact LeO.refl _) | (with_reducible refine LeO.ite ?_ ?_) | (with_reducible refine LeO.bind ?_ (fun _ => ?_))
set_option maxHeartbeats 8000000 in
set_option maxRecDepth 100000 in
theorem impl_star.calls (k : Nat) (A0_0 : Option Addr) (c0_0 : Nat) (l0_0 : List Bool) (A0_1 : Option Addr) (c0_1 : Nat) (l0_1 : List Bool) (a1 : Int) (r : List Bool) (w : World) (hr0_0 : Kd.C Kd.bool w A0_0 l0_0.length l0_0) (hc0_0 : l0_0.length ≤ c0_0) (hr0_1 : Kd.C Kd.bool w A0_1 l0_1.length l0_1) (hc0_1 : l0_1.length ≤ c0_1) (h : impl_star.f k l0_0 l0_1 a1 = some r) :
  Calls Tryd.prog 52 #[.agg #[.slice A0_0 l0_0.length c0_0, .slice A0_1 l0_1.length c0_1], .int .i64 a1] w fun e w' => ∃ v0_ : Value, e = .returned (v0_) ∧ Kd.R Kd.bool 4 w' w.heap.size (fun _ => True) v0_ r ∧ Below w.heap.size w w' := by
 have hu49 := Tryd.underlying49
 have HR0_0 := Aside0.mk hr0_0
 have HC0_0 := Aside0.mk hc0_0
 clear hr0_0 hc0_0
 have HR0_1 := Aside0.mk hr0_1
 have HC0_1 := Aside0.mk hc0_1
 clear hr0_1 hc0_1
 have HB := Aside0.mk (Below.refl w.heap.size w)
 have H : (if 0 ≤ a1 then (if (a1 : Int).toNat ≤ 281474976710656 then ((some (List.replicate (a1 : Int).toNat false : List Bool)).bind fun y401 => (impl_star.l0 k y401 (y401.length : Int) 0 l0_0 l0_1)) else (none)) else (none)) = some r := h
 clear h
 by_cases c3 : 0 ≤ a1
 ·rw [if_pos c3] at H
  have c3b0 := eq_true c3
  have c3b1 : decide (0 ≤ a1) = true := decide_eq_true c3
  clear c3
  by_cases c4 : (a1 : Int).toNat ≤ 281474976710656
  ·rw [if_pos c4] at H
   have c4b0 := eq_true c4
   have c4b1 : decide ((a1 : Int).toNat ≤ 281474976710656) = true := decide_eq_true c4
   clear c4
   obtain ⟨y401, hy401⟩ : ∃ y_ : List Bool, y_ = (List.replicate (a1 : Int).toNat false) := ⟨_, rfl⟩
   replace H : (impl_star.l0 k y401 (y401.length : Int) 0 l0_0 l0_1) = some r := by first | (have H2_ := (Option.bind_some _ _).symm.trans H; rw [hy401]; with_reducible exact H2_)
   have Ny401 := Aside0.mk hy401
   clear hy401
   have H' := Aside0.mk H
   clear H
   go_enter Tryd.func52, Tryd.ntmps52
   go_wp2_with (first | ((with_reducible refine gate_dst (N := 2) rfl ?_); refine box_event ?hg (N := 2) ?hd (cs := #[.slice A0_0 l0_0.length c0_0, .slice A0_1 l0_1.length c0_1]) (t := 49) ?hr ?_; (case hd => rfl); (case hg => rfl); (case hr => first | (go_simp; done)); intro gb400 hg w5 hbox hb; have BK400 := Aside0.mk hbox; have GW400 := Aside0.mk ((by rw [hg]; exact (below_size HB.out) : w.heap.size ≤ gb400)); have GE400 := Aside0.mk ((by rw [hg]; exact (below_size HB.out) : w.heap.size ≤ gb400)); replace HB := Aside0.mk (below_step HB.out hb); clear hb hbox hg) | ((with_reducible refine gate_dst (N := 9) rfl ?_); refine Kd.R_make Kd.bool _ 4 rfl (N := 9) rfl 47 _ _ rfl a1 rfl rfl Tryd.underlying47 (.bool false) 1 info4 rfl (by decide) (by omega) false (ok := fun _ => True) (okp := fun _ => True) rfl (fun _ hk => hk) trivial (of_decide_eq_true (by (with_reducible assumption))) (Nat.le_trans (Nat.mul_le_mul_right _ (of_decide_eq_true (by (with_reducible assumption)) : a1.toNat ≤ 281474976710656)) (by omega)) (Below.refl _ _) (Nat.le_refl _) ?_; intro v402 w6 ho7 hb hg_ hnew_; clear hg_ hnew_; (rw [← Ny401.out] at ho7); have HO403 := Aside0.mk (Kd.R_lower ho7 (below_size HB.out)); replace BK400 := Aside0.mk (blk_below (g := gb400) (o := .cells #[.slice A0_0 l0_0.length c0_0, .slice A0_1 l0_1.length c0_1] 49 (0, 0)) BK400.out hb); replace HB := Aside0.mk (below_step HB.out hb); clear hb ho7; obtain ⟨Ao8, co8, eo8⟩ := Kd.R_slice HO403.out; subst eo8))
   go_loopg [12] k (fun kq v12 w' => ∃ (x5_1 : List Bool) (x12_1 : Int), v12 = .int .i64 x12_1 ∧ Aside0 (impl_star.l0 kq x5_1 (y401.length : Int) x12_1 l0_0 l0_1 = some r) ∧ Aside0 (kq ≤ k) ∧ Aside0 (Kd.R Kd.bool 4 w' w.heap.size (fun _ => True) (.slice Ao8 y401.length co8) x5_1) ∧ Aside0 (w'.heap[gb400]? = some (.cells #[(.slice A0_0 l0_0.length c0_0), (.slice A0_1 l0_1.length c0_1)] 49 (0, 0))) ∧ Aside0 (Below w.heap.size w w'))
   case atStart => exact ⟨(y401), (0), (by rfl), H', ⟨Nat.le_refl _⟩, ⟨by exact HO403.out⟩, ⟨by exact BK400.out⟩, ⟨HB.out⟩⟩
   case round =>
    clear H'
    try clear c3b0
    try clear c3b1
    try clear c4b0
    try clear c4b1
    obtain ⟨x5_1, x12_1, rfl, HA, HK1, HO_5, BK400, HB⟩ := hrel
    have hl5_1 := (Kd.R_reads' HO_5.out).1
    rw [hl5_1] at HO_5
    (try simp only [hl5_1])
    cases gk with
    | zero => exact absurd HA.out (by simp [impl_star.l0])
    | succ k1 =>
     have H := HA.out
     clear HA
     simp only [impl_star.l0] at H
     by_cases c9 : x12_1 < (y401.length : Int)
     ·rw [if_pos c9] at H
      have c9b0 : decide (x12_1 < (y401.length : Int)) = true := decide_eq_true c9
      have c9b0z := c9b0
      (try simp only [hl5_1] at c9b0z)
      clear c9
      by_cases c10 : 0 ≤ x12_1
      ·rw [if_pos c10] at H
       have c10b0 : decide (0 ≤ x12_1) = true := decide_eq_true c10
       clear c10
       by_cases c11 : x12_1 < (x5_1.length : Int)
       ·rw [if_pos c11] at H
        have c11b0 : decide (x12_1 < (x5_1.length : Int)) = true := decide_eq_true c11
        have c11b0z := c11b0
        clear c11
        obtain ⟨y404, hy404⟩ : ∃ y_ : List Bool, y_ = (x5_1.set (x12_1 : Int).toNat (x12_1 == 0)) := ⟨_, rfl⟩
        replace H : (impl_star.l1 k1 y404 x12_1 1 (y401.length : Int) x12_1 l0_0 l0_1) = some r := by first | (rw [hy404]; with_reducible exact H)
        have Ny404 := Aside0.mk hy404
        clear hy404
        have H' := Aside0.mk H
        clear H
        have p12 : 0 ≤ (x12_1 : Int) := of_decide_eq_true (by (with_reducible assumption))
        have q12 : (x12_1 : Int) < ((x5_1.length : Int) : Int) := of_decide_eq_true (by (with_reducible assumption))
        obtain ⟨go12, co12, eo12, gb12, gl12, cl12, HG12⟩ := Kd.R_form HO_5.out (by omega)
        (cases eo12)
        have GB12 := Aside0.mk gb12
        have GG12 := Aside0.mk HG12
        clear gb12 gl12 HG12
        obtain ⟨hx12_0, hf12_0⟩ := Kd.R_celln false HO_5.out (x12_1 : Int) p12 q12
        replace p12 := eq_true p12
        replace q12 := eq_true q12
        have HP13 := Kd.R_putg HO_5.out (x12_1 : Int) (x12_1 == 0)
        go_wp2_with (first | ((with_reducible refine gate_store (t := 4) (p := 19) rfl ?_); refine store_event (t := 4) (p := 19) (v := ?vo_w14) (w1 := (wr.setCell ⟨go12, (x12_1 : Int).toNat, none⟩ (.bool (x12_1 == 0)))) ?hg ?ho ?hn ?hr ?_; (case ho => rfl); (case hg => rfl); (case hn => rfl); (case hr => first | (go_simp; done)); intro w14 hw; have hg : wr.grownBy w14 (some go12) := (by rw [hw]; exact HP13.2); have hp_ : Kd.R Kd.bool 4 w14 w.heap.size (fun _ => True) (.slice (some ⟨go12, 0, none⟩) x5_1.length co8) y404 := (by rw [hw, Ny404.out]; exact HP13.1); clear HP13; replace BK400 := Aside0.mk (blk_grown (g := gb400) (o := .cells #[.slice A0_0 l0_0.length c0_0, .slice A0_1 l0_1.length c0_1] 49 (0, 0)) BK400.out hg (Kd.R_ne HO_5.out BK400.out (by decide))); replace HO_5 := Aside0.mk hp_; replace HB := Aside0.mk ((by rw [hw]; exact below_set (HB.out) GB12.out : Below w.heap.size w w14)); clear hg hw hp_))
        go_loopg [7] k1 (fun kq v7 w' => ∃ (x5_2 : List Bool) (x7_2 : Int), v7 = .int .i64 x7_2 ∧ Aside0 (impl_star.l1 kq x5_2 x12_1 x7_2 (y401.length : Int) x12_1 l0_0 l0_1 = some r) ∧ Aside0 (kq ≤ k1) ∧ Aside0 (Kd.R Kd.bool 4 w' w.heap.size (fun _ => True) (.slice (some ⟨go12, 0, none⟩) x5_1.length co8) x5_2) ∧ Aside0 (w'.heap[gb400]? = some (.cells #[(.slice A0_0 l0_0.length c0_0), (.slice A0_1 l0_1.length c0_1)] 49 (0, 0))) ∧ Aside0 (Below w.heap.size w w'))
        case atStart => exact ⟨(y404), (1), (by rfl), H', ⟨Nat.le_refl _⟩, ⟨by exact HO_5.out⟩, ⟨by exact BK400.out⟩, ⟨HB.out⟩⟩
        case round =>
         clear H'
         try clear c9b0
         try clear c10b0
         try clear c11b0
         try clear p12
         try clear q12
         try clear hx12_0
         obtain ⟨x5_2, x7_2, rfl, HA, HK2, HO_5, BK400, HB⟩ := hrel
         have hl5_2 := (Kd.R_reads' HO_5.out).1
         rw [hl5_2] at HO_5
         (try simp only [hl5_2])
         cases gk with
         | zero => exact absurd HA.out (by simp [impl_star.l1])
         | succ k2 =>
          have H := HA.out
          clear HA
          simp only [impl_star.l1] at H
          by_cases c15 : x7_2 ≤ x12_1
          ·rw [if_pos c15] at H
           have c15b0 : decide (x7_2 ≤ x12_1) = true := decide_eq_true c15
           clear c15
           by_cases c16 : 0 ≤ x12_1
           ·rw [if_pos c16] at H
            have c16b0 : decide (0 ≤ x12_1) = true := decide_eq_true c16
            clear c16
            by_cases c17 : x12_1 < (x5_2.length : Int)
            ·rw [if_pos c17] at H
             have c17b0 : decide (x12_1 < (x5_2.length : Int)) = true := decide_eq_true c17
             have c17b0z := c17b0
             clear c17
             obtain ⟨bq18, hbq18⟩ : ∃ b_ : Bool, b_ = (rdOf false x5_2 x12_1) := ⟨_, rfl⟩
             replace H : (if bq18 = true then (impl_star.l0 k2 x5_2 (y401.length : Int) (wrap64 (x12_1 + 1)) l0_0 l0_1) else ((impl_set_has.f l0_0 l0_1 x7_2).bind fun t406 => (if t406 = true then (if 0 ≤ (wrap64 (x12_1 - x7_2)) then (if (wrap64 (x12_1 - x7_2)) < (x5_2.length : Int) then (impl_star.l1 k2 (x5_2.set (x12_1 : Int).toNat (rdOf false x5_2 (wrap64 (x12_1 - x7_2)))) x12_1 (wrap64 (x7_2 + 1)) (y401.length : Int) x12_1 l0_0 l0_1) else (none)) else (none)) else (impl_star.l1 k2 (x5_2.set (x12_1 : Int).toNat false) x12_1 (wrap64 (x7_2 + 1)) (y401.length : Int) x12_1 l0_0 l0_1)))) = some r := by rw [← hbq18] at H; exact H
             have Nbq18 := Aside0.mk hbq18
             clear hbq18
             by_cases c19 : bq18 = true
             ·subst c19
              replace H : (impl_star.l0 k2 x5_2 (y401.length : Int) (wrap64 (x12_1 + 1)) l0_0 l0_1) = some r := by rw [if_pos rfl] at H; exact H
              have H' := Aside0.mk H
              clear H
              have p405 : 0 ≤ (x12_1 : Int) := of_decide_eq_true (by (with_reducible assumption))
              have q405 : x12_1 < (x5_2.length : Int) := of_decide_eq_true (by (with_reducible assumption))
              obtain ⟨ad405, e405, hx405_0⟩ := Kd.at_bool (Kd.R_reads' HO_5.out).2.2 x12_1 p405 q405
              (try rw [← Nbq18.out] at hx405_0)
              obtain rfl : (⟨go12, 0, none⟩ : Addr) = ad405 := (by injection e405)
              (simp only [add_plain] at hx405_0)
              replace p405 := eq_true p405
              replace q405 := eq_true q405
              go_wp2
              (try simp only [← hl5_1, ← hl5_2])
              go_roundg k2
              case measure => have := HK1.out; have := HK2.out; omega
              case rel => exact ⟨(x5_2), (wrap64 (x12_1 + 1)), (by rfl), H', ⟨by have := HK1.out; have := HK2.out; omega⟩, ⟨by (try simp only [hl5_1]); (try simp only [hl5_2]); exact HO_5.out⟩, ⟨by exact BK400.out⟩, ⟨HB.out⟩⟩
             ·replace c19 := Bool.eq_false_iff.mpr c19
              subst c19
              replace H : ((impl_set_has.f l0_0 l0_1 x7_2).bind fun t406 => (if t406 = true then (if 0 ≤ (wrap64 (x12_1 - x7_2)) then (if (wrap64 (x12_1 - x7_2)) < (x5_2.length : Int) then (impl_star.l1 k2 (x5_2.set (x12_1 : Int).toNat (rdOf false x5_2 (wrap64 (x12_1 - x7_2)))) x12_1 (wrap64 (x7_2 + 1)) (y401.length : Int) x12_1 l0_0 l0_1) else (none)) else (none)) else (impl_star.l1 k2 (x5_2.set (x12_1 : Int).toNat false) x12_1 (wrap64 (x7_2 + 1)) (y401.length : Int) x12_1 l0_0 l0_1))) = some r := by rw [if_neg (show ¬ (false = true) by decide)] at H; exact H
              replace H := Option.bind_eq_some_iff.mp H
              obtain ⟨t406, A200, H⟩ := H
              replace H : (if t406 = true then (if 0 ≤ (wrap64 (x12_1 - x7_2)) then (if (wrap64 (x12_1 - x7_2)) < (x5_2.length : Int) then (impl_star.l1 k2 (x5_2.set (x12_1 : Int).toNat (rdOf false x5_2 (wrap64 (x12_1 - x7_2)))) x12_1 (wrap64 (x7_2 + 1)) (y401.length : Int) x12_1 l0_0 l0_1) else (none)) else (none)) else (impl_star.l1 k2 (x5_2.set (x12_1 : Int).toNat false) x12_1 (wrap64 (x7_2 + 1)) (y401.length : Int) x12_1 l0_0 l0_1)) = some r := H
              have A20 := Aside0.mk A200
              clear A200
              by_cases c21 : t406 = true
              ·subst c21
               replace H : (if 0 ≤ (wrap64 (x12_1 - x7_2)) then (if (wrap64 (x12_1 - x7_2)) < (x5_2.length : Int) then (impl_star.l1 k2 (x5_2.set (x12_1 : Int).toNat (rdOf false x5_2 (wrap64 (x12_1 - x7_2)))) x12_1 (wrap64 (x7_2 + 1)) (y401.length : Int) x12_1 l0_0 l0_1) else (none)) else (none)) = some r := by rw [if_pos rfl] at H; exact H
               obtain ⟨ji22, hji22⟩ : ∃ j_ : Int, (wrap64 (x12_1 - x7_2)) = j_ := ⟨_, rfl⟩
               replace H : (if 0 ≤ (ji22) then (if (ji22) < (x5_2.length : Int) then (impl_star.l1 k2 (x5_2.set (x12_1 : Int).toNat (rdOf false x5_2 (ji22))) x12_1 (wrap64 (x7_2 + 1)) (y401.length : Int) x12_1 l0_0 l0_1) else (none)) else (none)) = some r := by first | (rw [hji22] at H; exact H)
               have hji22w : (IntKind.i64.wrap (x12_1 - x7_2)) = ji22 := (i64_w _).trans hji22
               by_cases c23 : 0 ≤ (ji22)
               ·rw [if_pos c23] at H
                have c23b0 : decide (0 ≤ (ji22)) = true := decide_eq_true c23
                clear c23
                by_cases c24 : (ji22) < (x5_2.length : Int)
                ·rw [if_pos c24] at H
                 have c24b0 : decide ((ji22) < (x5_2.length : Int)) = true := decide_eq_true c24
                 have c24b0z := c24b0
                 clear c24
                 obtain ⟨y408, hy408⟩ : ∃ y_ : List Bool, y_ = (x5_2.set (x12_1 : Int).toNat (rdOf false x5_2 (ji22))) := ⟨_, rfl⟩
                 replace H : (impl_star.l1 k2 y408 x12_1 (wrap64 (x7_2 + 1)) (y401.length : Int) x12_1 l0_0 l0_1) = some r := by first | (rw [hy408]; with_reducible exact H)
                 have Ny408 := Aside0.mk hy408
                 clear hy408
                 have H' := Aside0.mk H
                 clear H
                 have p405 : 0 ≤ (x12_1 : Int) := of_decide_eq_true (by (with_reducible assumption))
                 have q405 : x12_1 < (x5_2.length : Int) := of_decide_eq_true (by (with_reducible assumption))
                 obtain ⟨ad405, e405, hx405_0⟩ := Kd.at_bool (Kd.R_reads' HO_5.out).2.2 x12_1 p405 q405
                 (try rw [← Nbq18.out] at hx405_0)
                 obtain rfl : (⟨go12, 0, none⟩ : Addr) = ad405 := (by injection e405)
                 (simp only [add_plain] at hx405_0)
                 replace p405 := eq_true p405
                 replace q405 := eq_true q405
                 have hcz26_0 : wr.cell? ⟨gb400, 0, none⟩ = some (.slice A0_0 l0_0.length c0_0) := (blk_cell BK400.out 0).trans rfl
                 have hcz26_1 : wr.cell? ⟨gb400, 1, none⟩ = some (.slice A0_1 l0_1.length c0_1) := (blk_cell BK400.out 1).trans rfl
                 have hfz26_0 := blk_frozen BK400.out 0
                 have hfz26_1 := blk_frozen BK400.out 1
                 go_wp2_with (first | ((with_reducible refine gate_callee (f := 58) rfl ?_); refine goesL_ (some 36) rfl rfl Tryd.func58 (by kernel_rfl) rfl #[.agg #[.slice A0_0 l0_0.length c0_0, .slice A0_1 l0_1.length c0_1], .int .i64 x7_2] rfl (by (try simp only [List.map_toArray, List.map_cons, List.map_nil]); rfl) ?_; (with_reducible refine (impl_set_has.calls _ _ l0_0 _ _ l0_1 x7_2 true _ ?side1 ?side2 ?side3 ?side4 A20.out).mono ?_); (case side1 => repeat (exact (Kd.C_below HR0_0.out HB.out))); (case side2 => exact HC0_0.out); (case side3 => repeat (exact (Kd.C_below HR0_1.out HB.out))); (case side4 => exact HC0_1.out); rintro e w27 ⟨rfl, hb⟩; refine ⟨_, rfl, ?_⟩; replace HO_5 := Aside0.mk (Kd.R_below HO_5.out hb); replace BK400 := Aside0.mk (blk_below (g := gb400) (o := .cells #[.slice A0_0 l0_0.length c0_0, .slice A0_1 l0_1.length c0_1] 49 (0, 0)) BK400.out hb); replace HB := Aside0.mk (below_step HB.out hb); (try clear hb); have p407 : 0 ≤ ((ji22) : Int) := of_decide_eq_true (by (with_reducible assumption)); have q407 : (ji22) < (x5_2.length : Int) := of_decide_eq_true (by (with_reducible assumption)); obtain ⟨ad407, e407, hx407_0⟩ := Kd.at_bool (Kd.R_reads' HO_5.out).2.2 (ji22) p407 q407; obtain rfl : (⟨go12, 0, none⟩ : Addr) = ad407 := (by injection e407); (simp only [add_plain] at hx407_0); replace p407 := eq_true p407; replace q407 := eq_true q407; have p25 : 0 ≤ (x12_1 : Int) := of_decide_eq_true (by (with_reducible assumption)); have q25 : (x12_1 : Int) < ((x5_2.length : Int) : Int) := of_decide_eq_true (by (with_reducible assumption)); obtain ⟨hx25_0, hf25_0⟩ := Kd.R_celln false HO_5.out (x12_1 : Int) p25 q25; replace p25 := eq_true p25; replace q25 := eq_true q25; obtain ⟨hy28_, hz28_⟩ := Kd.R_celln false HO_5.out (x12_1 : Int) (of_decide_eq_true (by (with_reducible assumption))) (of_decide_eq_true (by (with_reducible assumption))); have HP28 := Kd.R_putg HO_5.out (x12_1 : Int) (rdOf false x5_2 (ji22))) | ((with_reducible refine gate_store (t := 4) (p := 45) rfl ?_); refine store_event (t := 4) (p := 45) (v := ?vo_w29) (w1 := (w27.setCell ⟨go12, (x12_1 : Int).toNat, none⟩ (.bool (rdOf false x5_2 (ji22))))) ?hg ?ho ?hn ?hr ?_; (case ho => rfl); (case hg => rfl); (case hn => rfl); (case hr => first | (go_simp; done)); intro w29 hw; have hg : w27.grownBy w29 (some go12) := (by rw [hw]; exact HP28.2); have hp_ : Kd.R Kd.bool 4 w29 w.heap.size (fun _ => True) (.slice (some ⟨go12, 0, none⟩) x5_2.length co8) y408 := (by rw [hw, Ny408.out]; exact HP28.1); clear HP28; replace BK400 := Aside0.mk (blk_grown (g := gb400) (o := .cells #[.slice A0_0 l0_0.length c0_0, .slice A0_1 l0_1.length c0_1] 49 (0, 0)) BK400.out hg (Kd.R_ne HO_5.out BK400.out (by decide))); replace HO_5 := Aside0.mk hp_; replace HB := Aside0.mk ((by rw [hw]; exact below_set (HB.out) GB12.out : Below w.heap.size w w29)); clear hg hw hp_))
                 (try simp only [← hl5_2])
                 go_roundg k2
                 case measure => have := HK1.out; have := HK2.out; omega
                 case rel => exact ⟨(y408), (wrap64 (x7_2 + 1)), (by rfl), H', ⟨by have := HK1.out; have := HK2.out; omega⟩, ⟨by (try simp only [hl5_2]); exact HO_5.out⟩, ⟨by exact BK400.out⟩, ⟨HB.out⟩⟩
                ·rw [if_neg c24] at H
                 exact absurd H (by simp)
               ·rw [if_neg c23] at H
                exact absurd H (by simp)
              ·replace c21 := Bool.eq_false_iff.mpr c21
               subst c21
               replace H : (impl_star.l1 k2 (x5_2.set (x12_1 : Int).toNat false) x12_1 (wrap64 (x7_2 + 1)) (y401.length : Int) x12_1 l0_0 l0_1) = some r := by rw [if_neg (show ¬ (false = true) by decide)] at H; exact H
               obtain ⟨y409, hy409⟩ : ∃ y_ : List Bool, y_ = (x5_2.set (x12_1 : Int).toNat false) := ⟨_, rfl⟩
               replace H : (impl_star.l1 k2 y409 x12_1 (wrap64 (x7_2 + 1)) (y401.length : Int) x12_1 l0_0 l0_1) = some r := by first | (rw [hy409]; with_reducible exact H)
               have Ny409 := Aside0.mk hy409
               clear hy409
               have H' := Aside0.mk H
               clear H
               have p405 : 0 ≤ (x12_1 : Int) := of_decide_eq_true (by (with_reducible assumption))
               have q405 : x12_1 < (x5_2.length : Int) := of_decide_eq_true (by (with_reducible assumption))
               obtain ⟨ad405, e405, hx405_0⟩ := Kd.at_bool (Kd.R_reads' HO_5.out).2.2 x12_1 p405 q405
               (try rw [← Nbq18.out] at hx405_0)
               obtain rfl : (⟨go12, 0, none⟩ : Addr) = ad405 := (by injection e405)
               (simp only [add_plain] at hx405_0)
               replace p405 := eq_true p405
               replace q405 := eq_true q405
               have hcz31_0 : wr.cell? ⟨gb400, 0, none⟩ = some (.slice A0_0 l0_0.length c0_0) := (blk_cell BK400.out 0).trans rfl
               have hcz31_1 : wr.cell? ⟨gb400, 1, none⟩ = some (.slice A0_1 l0_1.length c0_1) := (blk_cell BK400.out 1).trans rfl
               have hfz31_0 := blk_frozen BK400.out 0
               have hfz31_1 := blk_frozen BK400.out 1
               go_wp2_with (first | ((with_reducible refine gate_callee (f := 58) rfl ?_); refine goesL_ (some 36) rfl rfl Tryd.func58 (by kernel_rfl) rfl #[.agg #[.slice A0_0 l0_0.length c0_0, .slice A0_1 l0_1.length c0_1], .int .i64 x7_2] rfl (by (try simp only [List.map_toArray, List.map_cons, List.map_nil]); rfl) ?_; (with_reducible refine (impl_set_has.calls _ _ l0_0 _ _ l0_1 x7_2 false _ ?side1 ?side2 ?side3 ?side4 A20.out).mono ?_); (case side1 => repeat (exact (Kd.C_below HR0_0.out HB.out))); (case side2 => exact HC0_0.out); (case side3 => repeat (exact (Kd.C_below HR0_1.out HB.out))); (case side4 => exact HC0_1.out); rintro e w32 ⟨rfl, hb⟩; refine ⟨_, rfl, ?_⟩; replace HO_5 := Aside0.mk (Kd.R_below HO_5.out hb); replace BK400 := Aside0.mk (blk_below (g := gb400) (o := .cells #[.slice A0_0 l0_0.length c0_0, .slice A0_1 l0_1.length c0_1] 49 (0, 0)) BK400.out hb); replace HB := Aside0.mk (below_step HB.out hb); (try clear hb); have p30 : 0 ≤ (x12_1 : Int) := of_decide_eq_true (by (with_reducible assumption)); have q30 : (x12_1 : Int) < ((x5_2.length : Int) : Int) := of_decide_eq_true (by (with_reducible assumption)); obtain ⟨hx30_0, hf30_0⟩ := Kd.R_celln false HO_5.out (x12_1 : Int) p30 q30; replace p30 := eq_true p30; replace q30 := eq_true q30; obtain ⟨hy33_, hz33_⟩ := Kd.R_celln false HO_5.out (x12_1 : Int) (of_decide_eq_true (by (with_reducible assumption))) (of_decide_eq_true (by (with_reducible assumption))); have HP33 := Kd.R_putg HO_5.out (x12_1 : Int) false) | ((with_reducible refine gate_store (t := 4) (p := 45) rfl ?_); refine store_event (t := 4) (p := 45) (v := ?vo_w34) (w1 := (w32.setCell ⟨go12, (x12_1 : Int).toNat, none⟩ (.bool false))) ?hg ?ho ?hn ?hr ?_; (case ho => rfl); (case hg => rfl); (case hn => rfl); (case hr => first | (go_simp; done)); intro w34 hw; have hg : w32.grownBy w34 (some go12) := (by rw [hw]; exact HP33.2); have hp_ : Kd.R Kd.bool 4 w34 w.heap.size (fun _ => True) (.slice (some ⟨go12, 0, none⟩) x5_2.length co8) y409 := (by rw [hw, Ny409.out]; exact HP33.1); clear HP33; replace BK400 := Aside0.mk (blk_grown (g := gb400) (o := .cells #[.slice A0_0 l0_0.length c0_0, .slice A0_1 l0_1.length c0_1] 49 (0, 0)) BK400.out hg (Kd.R_ne HO_5.out BK400.out (by decide))); replace HO_5 := Aside0.mk hp_; replace HB := Aside0.mk ((by rw [hw]; exact below_set (HB.out) GB12.out : Below w.heap.size w w34)); clear hg hw hp_))
               (try simp only [← hl5_2])
               go_roundg k2
               case measure => have := HK1.out; have := HK2.out; omega
               case rel => exact ⟨(y409), (wrap64 (x7_2 + 1)), (by rfl), H', ⟨by have := HK1.out; have := HK2.out; omega⟩, ⟨by (try simp only [hl5_2]); exact HO_5.out⟩, ⟨by exact BK400.out⟩, ⟨HB.out⟩⟩
            ·rw [if_neg c17] at H
             exact absurd H (by simp)
           ·rw [if_neg c16] at H
            exact absurd H (by simp)
          ·rw [if_neg c15] at H
           have c15b0 : decide (x7_2 ≤ x12_1) = false := decide_eq_false c15
           clear c15
           have H' := Aside0.mk H
           clear H
           go_wp2
           (try simp only [← hl5_1, ← hl5_2])
           go_roundg k2
           case measure => have := HK1.out; have := HK2.out; omega
           case rel => exact ⟨(x5_2), (wrap64 (x12_1 + 1)), (by rfl), H', ⟨by have := HK1.out; have := HK2.out; omega⟩, ⟨by (try simp only [hl5_1]); (try simp only [hl5_2]); exact HO_5.out⟩, ⟨by exact BK400.out⟩, ⟨HB.out⟩⟩
       ·rw [if_neg c11] at H
        exact absurd H (by simp)
      ·rw [if_neg c10] at H
       exact absurd H (by simp)
     ·rw [if_neg c9] at H
      have c9b0 : decide (x12_1 < (y401.length : Int)) = false := decide_eq_false c9
      have c9b0z := c9b0
      (try simp only [hl5_1] at c9b0z)
      clear c9
      obtain rfl := Option.some.inj H
      go_wp2
      go_ret
      exact ⟨_, by first | rfl | (simp [*, errW_none, errW_some] <;> rfl), by exact HO_5.out, HB.out⟩
  ·rw [if_neg c4] at H
   exact absurd H (by simp)
 ·rw [if_neg c3] at H
  exact absurd H (by simp)


def impl_StarHas.f (k : Nat) (a0 : ByteArray) (a1 : Int) : Option (Bool) := (impl_small.f k a0).bind fun bt410 => (if bt410.2.2 = true then ((impl_in.f a1 0 2000).bind fun t418 => (if t418 = true then ((impl_star.f k bt410.1 bt410.2.1 (wrap64 (a1 + 1))).bind fun t419 => (if 0 ≤ a1 then (if a1 < (t419.length : Int) then (some (rdOf false t419 a1)) else (none)) else (none))) else (some false))) else (some false))
theorem impl_StarHas.mono : ∀ a0 a1 k, LeO (impl_StarHas.f k a0 a1) (impl_StarHas.f (k + 1) a0 a1) := by
 intro a0 a1 k
 unfold impl_StarHas.f
 repeat' first | (with_reducible exact impl_small.mono _ _) | (with_reducible exact impl_star.mono _ _ _ _) | (with_reducible exact LeO.refl _) | (with_reducible refine LeO.ite ?_ ?_) | (with_reducible refine LeO.bind ?_ (fun _ => ?_))
set_option maxHeartbeats 8000000 in
set_option maxRecDepth 100000 in
theorem impl_StarHas.calls (k : Nat) (a0 : ByteArray) (a1 : Int) (r : Bool) (w : World) (h : impl_StarHas.f k a0 a1 = some r) :
  Calls Tryd.prog 19 #[.string a0, .int .i64 a1] w fun e w' => e = .returned (.bool r) ∧ Below w.heap.size w w' := by
 have hu49 := Tryd.underlying49
 have HB := Aside0.mk (Below.refl w.heap.size w)
 have H : ((impl_small.f k a0).bind fun bt410 => (if bt410.2.2 = true then ((impl_in.f a1 0 2000).bind fun t418 => (if t418 = true then ((impl_star.f k bt410.1 bt410.2.1 (wrap64 (a1 + 1))).bind fun t419 => (if 0 ≤ a1 then (if a1 < (t419.length : Int) then (some (rdOf false t419 a1)) else (none)) else (none))) else (some false))) else (some false))) = some r := h
 clear h
 replace H := Option.bind_eq_some_iff.mp H
 obtain ⟨⟨t410, t413, t416⟩, A30, H⟩ := H
 replace H : (if t416 = true then ((impl_in.f a1 0 2000).bind fun t418 => (if t418 = true then ((impl_star.f k t410 t413 (wrap64 (a1 + 1))).bind fun t419 => (if 0 ≤ a1 then (if a1 < (t419.length : Int) then (some (rdOf false t419 a1)) else (none)) else (none))) else (some false))) else (some false)) = some r := H
 have A3 := Aside0.mk A30
 clear A30
 by_cases c4 : t416 = true
 ·subst c4
  replace H : ((impl_in.f a1 0 2000).bind fun t418 => (if t418 = true then ((impl_star.f k t410 t413 (wrap64 (a1 + 1))).bind fun t419 => (if 0 ≤ a1 then (if a1 < (t419.length : Int) then (some (rdOf false t419 a1)) else (none)) else (none))) else (some false))) = some r := by rw [if_pos rfl] at H; exact H
  replace H := Option.bind_eq_some_iff.mp H
  obtain ⟨t418, A50, H⟩ := H
  replace H : (if t418 = true then ((impl_star.f k t410 t413 (wrap64 (a1 + 1))).bind fun t419 => (if 0 ≤ a1 then (if a1 < (t419.length : Int) then (some (rdOf false t419 a1)) else (none)) else (none))) else (some false)) = some r := H
  have A5 := Aside0.mk A50
  clear A50
  by_cases c6 : t418 = true
  ·subst c6
   replace H : ((impl_star.f k t410 t413 (wrap64 (a1 + 1))).bind fun t419 => (if 0 ≤ a1 then (if a1 < (t419.length : Int) then (some (rdOf false t419 a1)) else (none)) else (none))) = some r := by rw [if_pos rfl] at H; exact H
   replace H := Option.bind_eq_some_iff.mp H
   obtain ⟨t419, A70, H⟩ := H
   replace H : (if 0 ≤ a1 then (if a1 < (t419.length : Int) then (some (rdOf false t419 a1)) else (none)) else (none)) = some r := H
   have A7 := Aside0.mk A70
   clear A70
   by_cases c8 : 0 ≤ a1
   ·rw [if_pos c8] at H
    have c8b0 : decide (0 ≤ a1) = true := decide_eq_true c8
    clear c8
    by_cases c9 : a1 < (t419.length : Int)
    ·rw [if_pos c9] at H
     have c9b0 : decide (a1 < (t419.length : Int)) = true := decide_eq_true c9
     clear c9
     obtain rfl := Option.some.inj H
     go_enter Tryd.func19, Tryd.ntmps19
     go_wp2_with (first | ((with_reducible refine gate_callee (f := 40) rfl ?_); refine goesL_ (some 9) rfl rfl Tryd.func40 (by kernel_rfl) rfl #[.string a0] rfl (by (try simp only [List.map_toArray, List.map_cons, List.map_nil]); rfl) ?_; (with_reducible refine (impl_small.calls k a0 t410 t413 true _ A3.out).mono ?_); rintro e w10 ⟨v411, v414, rfl, ho0, ho1, hb⟩; refine ⟨_, rfl, ?_⟩; have HO412 := Aside0.mk (Kd.R_lower ho0 (below_size HB.out)); have HO415 := Aside0.mk (Kd.R_lower ho1 (below_size HB.out)); replace HB := Aside0.mk (below_step HB.out hb); (try clear hb); (try clear ho0); (try clear ho1)) | ((with_reducible refine gate_dst (N := 5) rfl ?_); refine box_event ?hg (N := 5) ?hd (cs := #[.slice none 0 0, .slice none 0 0]) (t := 49) ?hr ?_; (case hd => rfl); (case hg => rfl); (case hr => first | (go_simp; done)); intro gb417 hg w11 hbox hb; replace HO412 := Aside0.mk (Kd.R_below HO412.out hb); replace HO415 := Aside0.mk (Kd.R_below HO415.out hb); have BK417 := Aside0.mk hbox; have GW417 := Aside0.mk ((by rw [hg]; exact (below_size HB.out) : w.heap.size ≤ gb417)); have GE417 := Aside0.mk ((by rw [hg]; exact (below_size HB.out) : w.heap.size ≤ gb417)); replace HB := Aside0.mk (below_step HB.out hb); clear hb hbox hg; obtain ⟨Ao12, co12, eo12⟩ := Kd.R_slice HO412.out; subst eo12; have hcz13_0 : w11.cell? ⟨gb417, 0, none⟩ = some (.slice none 0 0) := (blk_cell BK417.out 0).trans rfl; have hcz13_1 : w11.cell? ⟨gb417, 1, none⟩ = some (.slice none 0 0) := (blk_cell BK417.out 1).trans rfl; have hfz13_0 := blk_frozen BK417.out 0; have hfz13_1 := blk_frozen BK417.out 1; obtain ⟨Ao14, co14, eo14⟩ := Kd.R_slice HO415.out; subst eo14) | (go_at_call 41; (with_reducible refine (impl_in.calls a1 0 2000 true _ A5.out).mono ?_); rintro e w' ⟨rfl, ⟨nd, rfl⟩⟩) | (go_at_call 52; (with_reducible refine (impl_star.calls k _ _ t410 _ _ t413 (wrap64 (a1 + 1)) t419 _ ?side1 ?side2 ?side3 ?side4 A7.out).mono ?_); (case side1 => refine (Kd.R_reads' (e := 4) (base := w.heap.size) (ok := fun k_ => some k_ ≠ (.slice Ao14 t413.length co14 : Value).ownBlock) (n := t410.length) (c := co12) ?_).2.2; exact (by (with_reducible repeat (apply Kd.R_drewN)); exact (Kd.R_mono (Kd.R_far (p := ⟨gb417, 1, none⟩) (Kd.R_far (p := ⟨gb417, 0, none⟩) (Kd.R_types HO412.out BK417.out (by decide)) (fun _ hk => hk.2) (.slice Ao12 t410.length co12)) (fun _ hk => hk.2) (.slice Ao14 t413.length co14)) (fun _ h_ => h_.1)))); (case side2 => exact (Kd.R_reads' HO412.out).2.1); (case side3 => refine (Kd.R_reads' (e := 4) (base := w.heap.size) (ok := fun k_ => some k_ ≠ (.slice Ao12 t410.length co12 : Value).ownBlock) (n := t413.length) (c := co14) ?_).2.2; exact (by (with_reducible repeat (apply Kd.R_drewN)); exact (Kd.R_mono (Kd.R_far (p := ⟨gb417, 1, none⟩) (Kd.R_far (p := ⟨gb417, 0, none⟩) (Kd.R_types HO415.out BK417.out (by decide)) (fun _ hk => hk.2) (.slice Ao12 t410.length co12)) (fun _ hk => hk.2) (.slice Ao14 t413.length co14)) (fun _ h_ => h_.1)))); (case side4 => exact (Kd.R_reads' HO415.out).2.1); rintro e w15 ⟨v420, rfl, ho0, hb⟩; have HO421 := Aside0.mk (Kd.R_lower (Kd.R_new' (Kd.R_new' ho0 (Kd.R_lt (by (with_reducible repeat (apply Kd.R_drewN)); exact (Kd.R_mono (Kd.R_far (p := ⟨gb417, 1, none⟩) (Kd.R_far (p := ⟨gb417, 0, none⟩) (Kd.R_types HO412.out BK417.out (by decide)) (fun _ hk => hk.2) (.slice Ao12 t410.length co12)) (fun _ hk => hk.2) (.slice Ao14 t413.length co14)) (fun _ h_ => h_.1))))) (Kd.R_lt (by (with_reducible repeat (apply Kd.R_drewN)); exact (Kd.R_mono (Kd.R_far (p := ⟨gb417, 1, none⟩) (Kd.R_far (p := ⟨gb417, 0, none⟩) (Kd.R_types HO415.out BK417.out (by decide)) (fun _ hk => hk.2) (.slice Ao12 t410.length co12)) (fun _ hk => hk.2) (.slice Ao14 t413.length co14)) (fun _ h_ => h_.1))))) (below_size (by repeat (first | (with_reducible first | exact HB.out | apply pw_below_drewN | refine below_set ?_ GE417.out))))); replace HO412 := Aside0.mk (Kd.R_elder' (by (with_reducible repeat (apply Kd.R_drewN)); exact (Kd.R_mono (Kd.R_far (p := ⟨gb417, 1, none⟩) (Kd.R_far (p := ⟨gb417, 0, none⟩) (Kd.R_types HO412.out BK417.out (by decide)) (fun _ hk => hk.2) (.slice Ao12 t410.length co12)) (fun _ hk => hk.2) (.slice Ao14 t413.length co14)) (fun _ h_ => h_.1))) (Kd.R_base ho0) hb); replace HO415 := Aside0.mk (Kd.R_elder' (by (with_reducible repeat (apply Kd.R_drewN)); exact (Kd.R_mono (Kd.R_far (p := ⟨gb417, 1, none⟩) (Kd.R_far (p := ⟨gb417, 0, none⟩) (Kd.R_types HO415.out BK417.out (by decide)) (fun _ hk => hk.2) (.slice Ao12 t410.length co12)) (fun _ hk => hk.2) (.slice Ao14 t413.length co14)) (fun _ h_ => h_.1))) (Kd.R_base ho0) hb); replace BK417 := Aside0.mk (blk_below (g := gb417) (o := .cells #[.slice Ao12 t410.length co12, .slice Ao14 t413.length co14] 49 (0, 0)) (by (with_reducible repeat (refine blk_drewN ?_ _)); refine blk_put (cs := #[.slice Ao12 t410.length co12, .slice none 0 0]) ?_ 1 _ rfl; refine blk_put (cs := #[.slice none 0 0, .slice none 0 0]) ?_ 0 _ rfl; exact BK417.out) hb); replace HB := Aside0.mk (below_step (by repeat (first | (with_reducible first | exact HB.out | apply pw_below_drewN | refine below_set ?_ GE417.out))) hb); (try clear hb); (try clear ho0); obtain ⟨Ao16, co16, eo16⟩ := Kd.R_slice HO421.out; subst eo16; have p422 : 0 ≤ (a1 : Int) := of_decide_eq_true (by (with_reducible assumption)); have q422 : a1 < (t419.length : Int) := of_decide_eq_true (by (with_reducible assumption)); obtain ⟨ad422, e422, hx422_0⟩ := Kd.at_bool (Kd.R_reads' HO421.out).2.2 a1 p422 q422; cases e422; replace p422 := eq_true p422; replace q422 := eq_true q422))
     go_ret
     exact ⟨by first | rfl | (simp [*, errW_none, errW_some] <;> rfl), HB.out⟩
    ·rw [if_neg c9] at H
     exact absurd H (by simp)
   ·rw [if_neg c8] at H
    exact absurd H (by simp)
  ·replace c6 := Bool.eq_false_iff.mpr c6
   subst c6
   replace H : (some false) = some r := by rw [if_neg (show ¬ (false = true) by decide)] at H; exact H
   obtain rfl := Option.some.inj H
   go_enter Tryd.func19, Tryd.ntmps19
   go_wp2_with (first | ((with_reducible refine gate_callee (f := 40) rfl ?_); refine goesL_ (some 9) rfl rfl Tryd.func40 (by kernel_rfl) rfl #[.string a0] rfl (by (try simp only [List.map_toArray, List.map_cons, List.map_nil]); rfl) ?_; (with_reducible refine (impl_small.calls k a0 t410 t413 true _ A3.out).mono ?_); rintro e w17 ⟨v411, v414, rfl, ho0, ho1, hb⟩; refine ⟨_, rfl, ?_⟩; have HO412 := Aside0.mk (Kd.R_lower ho0 (below_size HB.out)); have HO415 := Aside0.mk (Kd.R_lower ho1 (below_size HB.out)); replace HB := Aside0.mk (below_step HB.out hb); (try clear hb); (try clear ho0); (try clear ho1)) | ((with_reducible refine gate_dst (N := 5) rfl ?_); refine box_event ?hg (N := 5) ?hd (cs := #[.slice none 0 0, .slice none 0 0]) (t := 49) ?hr ?_; (case hd => rfl); (case hg => rfl); (case hr => first | (go_simp; done)); intro gb417 hg w18 hbox hb; replace HO412 := Aside0.mk (Kd.R_below HO412.out hb); replace HO415 := Aside0.mk (Kd.R_below HO415.out hb); have BK417 := Aside0.mk hbox; have GW417 := Aside0.mk ((by rw [hg]; exact (below_size HB.out) : w.heap.size ≤ gb417)); have GE417 := Aside0.mk ((by rw [hg]; exact (below_size HB.out) : w.heap.size ≤ gb417)); replace HB := Aside0.mk (below_step HB.out hb); clear hb hbox hg; obtain ⟨Ao19, co19, eo19⟩ := Kd.R_slice HO412.out; subst eo19; have hcz20_0 : w18.cell? ⟨gb417, 0, none⟩ = some (.slice none 0 0) := (blk_cell BK417.out 0).trans rfl; have hcz20_1 : w18.cell? ⟨gb417, 1, none⟩ = some (.slice none 0 0) := (blk_cell BK417.out 1).trans rfl; have hfz20_0 := blk_frozen BK417.out 0; have hfz20_1 := blk_frozen BK417.out 1; obtain ⟨Ao21, co21, eo21⟩ := Kd.R_slice HO415.out; subst eo21) | (go_at_call 41; (with_reducible refine (impl_in.calls a1 0 2000 false _ A5.out).mono ?_); rintro e w' ⟨rfl, ⟨nd, rfl⟩⟩))
   go_ret
   exact ⟨by first | rfl | (simp [*, errW_none, errW_some] <;> rfl), by repeat (first | (with_reducible first | exact HB.out | apply pw_below_drewN | refine below_set ?_ GE417.out))⟩
 ·replace c4 := Bool.eq_false_iff.mpr c4
  subst c4
  replace H : (some false) = some r := by rw [if_neg (show ¬ (false = true) by decide)] at H; exact H
  obtain rfl := Option.some.inj H
  go_enter Tryd.func19, Tryd.ntmps19
  go_wp2_with (first | ((with_reducible refine gate_callee (f := 40) rfl ?_); refine goesL_ (some 9) rfl rfl Tryd.func40 (by kernel_rfl) rfl #[.string a0] rfl (by (try simp only [List.map_toArray, List.map_cons, List.map_nil]); rfl) ?_; (with_reducible refine (impl_small.calls k a0 t410 t413 false _ A3.out).mono ?_); rintro e w22 ⟨v411, v414, rfl, ho0, ho1, hb⟩; refine ⟨_, rfl, ?_⟩; have HO412 := Aside0.mk (Kd.R_lower ho0 (below_size HB.out)); have HO415 := Aside0.mk (Kd.R_lower ho1 (below_size HB.out)); replace HB := Aside0.mk (below_step HB.out hb); (try clear hb); (try clear ho0); (try clear ho1)) | ((with_reducible refine gate_dst (N := 5) rfl ?_); refine box_event ?hg (N := 5) ?hd (cs := #[.slice none 0 0, .slice none 0 0]) (t := 49) ?hr ?_; (case hd => rfl); (case hg => rfl); (case hr => first | (go_simp; done)); intro gb417 hg w23 hbox hb; replace HO412 := Aside0.mk (Kd.R_below HO412.out hb); replace HO415 := Aside0.mk (Kd.R_below HO415.out hb); have BK417 := Aside0.mk hbox; have GW417 := Aside0.mk ((by rw [hg]; exact (below_size HB.out) : w.heap.size ≤ gb417)); have GE417 := Aside0.mk ((by rw [hg]; exact (below_size HB.out) : w.heap.size ≤ gb417)); replace HB := Aside0.mk (below_step HB.out hb); clear hb hbox hg; obtain ⟨Ao24, co24, eo24⟩ := Kd.R_slice HO412.out; subst eo24; have hcz25_0 : w23.cell? ⟨gb417, 0, none⟩ = some (.slice none 0 0) := (blk_cell BK417.out 0).trans rfl; have hcz25_1 : w23.cell? ⟨gb417, 1, none⟩ = some (.slice none 0 0) := (blk_cell BK417.out 1).trans rfl; have hfz25_0 := blk_frozen BK417.out 0; have hfz25_1 := blk_frozen BK417.out 1; obtain ⟨Ao26, co26, eo26⟩ := Kd.R_slice HO415.out; subst eo26))
  go_ret
  exact ⟨by first | rfl | (simp [*, errW_none, errW_some] <;> rfl), by repeat (first | (with_reducible first | exact HB.out | refine below_set ?_ GE417.out))⟩


/-- A state of type 74 at block g of W; what its slices lead to came in by w0. -/
def IsS74 (w0 W : World) (g : Nat) (f0 : List Int) (f1 : Int) : Prop := ∃ A0 c0, W.heap[g]? = some (.cells #[.slice A0 f0.length c0, .int .i64 f1] 74 (0, 0)) ∧ w0.heap.size ≤ g ∧ Kd.C (Kd.int .u8) w0 A0 f0.length f0
theorem IsS74.grown {w0 W : World} {g : Nat} {f0 : List Int} {f1 : Int} {W1 : World} {row : Option Nat} (h : IsS74 w0 W g f0 f1) (hw : W.grownBy W1 row) (hne : some g ≠ row) : IsS74 w0 W1 g f0 f1 := by
 obtain ⟨A0, c0, hb, hg, hr0⟩ := h
 exact ⟨A0, c0, blk_grown hb hw hne, hg, hr0⟩
theorem IsS74.fresh {w0 W : World} {g : Nat} {f0 : List Int} {f1 : Int} (h : IsS74 w0 W g f0 f1) : ∀ k, W.heap.size ≤ k → k ≠ g := by
 obtain ⟨A0, c0, hb, hg, hr0⟩ := h
 exact Kd.freshB hb
theorem IsS74.kept {w0 W : World} {g : Nat} {f0 : List Int} {f1 : Int} {W1 : World} {S : Nat → Prop} (h : IsS74 w0 W g f0 f1) (hk : Kept W W1 S) (hne : ¬ S g) : IsS74 w0 W1 g f0 f1 := by
 obtain ⟨A0, c0, hb, hg, hr0⟩ := h
 exact ⟨A0, c0, blk_kept hb hk hne, hg, hr0⟩
theorem IsS74.below {w0 W : World} {g : Nat} {f0 : List Int} {f1 : Int} {W1 : World} (h : IsS74 w0 W g f0 f1) (hw : Below W.heap.size W W1) : IsS74 w0 W1 g f0 f1 := h.grown (grown_of_below hw none) (by simp)
theorem IsS74.alloc {w0 W : World} {g : Nat} {f0 : List Int} {f1 : Int} (h : IsS74 w0 W g f0 f1) (o : Obj) : IsS74 w0 (W.alloc o) g f0 f1 := h.below (below_alloc (Below.refl _ _) o)
theorem IsS74.drewN {w0 W : World} {g : Nat} {f0 : List Int} {f1 : Int} (h : IsS74 w0 W g f0 f1) (m : Nat) : IsS74 w0 (W.drewN m) g f0 f1 := h
theorem IsS74.drew {w0 W : World} {g : Nat} {f0 : List Int} {f1 : Int} (h : IsS74 w0 W g f0 f1) : IsS74 w0 W.drew g f0 f1 := h
theorem IsS74.at_ {w0 W : World} {g : Nat} {f0 : List Int} {f1 : Int} {w' : World} {m : Nat} (hq : W.drewN m = w') (h : IsS74 w0 W g f0 f1) : IsS74 w0 w' g f0 f1 := by subst hq; exact IsS74.drewN h m
theorem IsS74.apart {w0 W : World} {g : Nat} {f0 : List Int} {f1 : Int} {α : Type} {d : Kd α} {e : Nat} {base : Nat} {ok : Nat → Prop} {v : Value} {xs : List α} (h : IsS74 w0 W g f0 f1) (ho : d.R e W base ok v xs) (ht : ∀ q, q ∈ e :: d.E → q ≠ 74) : d.R e W base (fun k => ok k ∧ k ≠ g) v xs := by
 obtain ⟨A0, c0, hb, hg, hr0⟩ := h
 exact Kd.R_types ho hb ht
theorem IsS74.own_ne {w0 W : World} {g : Nat} {f0 : List Int} {f1 : Int} {α : Type} {d : Kd α} {e : Nat} {base : Nat} {ok : Nat → Prop} {v : Value} {xs : List α} (h : IsS74 w0 W g f0 f1) (ho : d.R e W base ok v xs) (ht : e ≠ 74) : some g ≠ v.ownBlock := by
 obtain ⟨A0, c0, hb, hg, hr0⟩ := h
 exact Kd.R_ne ho hb ht
theorem IsS74.lt {w0 W : World} {g : Nat} {f0 : List Int} {f1 : Int} (h : IsS74 w0 W g f0 f1) : g < W.heap.size := by
 obtain ⟨A0, c0, hb, hg, hr0⟩ := h
 exact blk_lt hb
theorem IsS74.ge {w0 W : World} {g : Nat} {f0 : List Int} {f1 : Int} (h : IsS74 w0 W g f0 f1) : w0.heap.size ≤ g := by
 obtain ⟨A0, c0, hb, hg, hr0⟩ := h
 exact hg
theorem cellS74_0 {W : World} {g : Nat} {A0 : Option Addr} {c0 : Nat} {f0 : List Int} {f1 : Int} (h : W.heap[g]? = some (.cells #[.slice A0 f0.length c0, .int .i64 f1] 74 (0, 0))) : W.cell? ⟨g, 0, none⟩ = some (.slice A0 f0.length c0) := (blk_cell h 0).trans rfl
theorem cellS74_1 {W : World} {g : Nat} {A0 : Option Addr} {c0 : Nat} {f0 : List Int} {f1 : Int} (h : W.heap[g]? = some (.cells #[.slice A0 f0.length c0, .int .i64 f1] 74 (0, 0))) : W.cell? ⟨g, 1, none⟩ = some (.int .i64 f1) := (blk_cell h 1).trans rfl
theorem IsS74.set_1 {w0 W : World} {g : Nat} {f0 : List Int} {f1 : Int} (h : IsS74 w0 W g f0 f1) (x : Int) : IsS74 w0 (W.setCell ⟨g, 1, none⟩ (.int .i64 x)) g f0 x := by
 obtain ⟨A0, c0, hb, hg, hr0⟩ := h
 exact ⟨A0, c0, by simpa using blk_set hb 1 (.int .i64 x), hg, hr0⟩
def spec_l6Open.f (l0 : List Int) : Option (List Int × Int) := if (l0.length : Int) > 2000 then (if 2000 ≤ (l0.length : Int) then (some (l0.take 2000, 0)) else (none)) else (some (l0, 0))
set_option maxHeartbeats 8000000 in
set_option maxRecDepth 100000 in
theorem spec_l6Open.calls (A0 : Option Addr) (c0 : Nat) (l0 : List Int) (r1 : List Int) (r2 : Int) (w0 w : World) (hB : Below w0.heap.size w0 w) (hr0 : Kd.C (Kd.int .u8) w0 A0 l0.length l0) (hc0 : l0.length ≤ c0) (h : spec_l6Open.f l0 = some (r1, r2)) :
  Calls Tryd.prog 37 #[.slice A0 l0.length c0] w fun e w' => ∃ g_ : Nat, e = .returned (.pointer (some ⟨g_, 0, none⟩)) ∧ IsS74 w0 w' g_ r1 r2 ∧ Below w0.heap.size w0 w' ∧ Below w.heap.size w w' := by
 have hu74 := Tryd.underlying74
 have HR0 := Aside0.mk hr0
 have HC0 := Aside0.mk hc0
 clear hr0 hc0
 have HBW := Aside0.mk (Below.refl w.heap.size w)
 have HW0 := Aside0.mk hB.size
 have HB := Aside0.mk hB
 clear hB
 have H : (if (l0.length : Int) > 2000 then (if 2000 ≤ (l0.length : Int) then (some (l0.take 2000, 0)) else (none)) else (some (l0, 0))) = some (r1, r2) := h
 clear h
 by_cases c2 : (l0.length : Int) > 2000
 ·rw [if_pos c2] at H
  have c2b0 : decide (2000 < (l0.length : Int)) = true := decide_eq_true c2
  have c2b1 : decide (2000 < l0.length) = true := decide_eq_true (by omega)
  clear c2
  by_cases c3 : 2000 ≤ (l0.length : Int)
  ·rw [if_pos c3] at H
   have c3b0 := eq_true c3
   have c3b1 : decide (2000 ≤ (l0.length : Int)) = true := decide_eq_true c3
   clear c3
   simp only [Option.some.injEq, Prod.mk.injEq] at H
   obtain ⟨rfl, rfl⟩ := H
   obtain ⟨i04, hi04, _, hsz4, _⟩ := info_parts info5
   obtain ⟨hcut4, hA4, hC4⟩ := print_take_of (P := Tryd.prog) (Value.int .u8) 0 22 5 .i64 Tryd.underlying22 hi04 hsz4 A0 c0 l0 2000 (by omega) (of_decide_eq_true (by (with_reducible assumption))) HC0.out
   have HR101 := Aside0.mk (Kd.C_of_reads (h1 := fun _ => rfl) (hA4 _ (Kd.reads_of_C HR0.out)))
   have HC101 := Aside0.mk hC4
   clear hA4 hC4 hi04 hsz4
   go_enter Tryd.func37, Tryd.ntmps37
   go_wp2_with (first | ((with_reducible refine gate_dst (N := 10) rfl ?_); refine box_event ?hg (N := 10) ?hd (cs := #[.slice A0 (l0.take 2000).length c0, .int .i64 0]) (t := 74) ?hr ?_; (case hd => rfl); (case hg => rfl); (case hr => first | (go_simp; done)); intro gb102 hg w5 hbox hb; replace HB := Aside0.mk (below_step HB.out hb); have BK102 := Aside0.mk hbox; have GW102 := Aside0.mk ((by rw [hg]; exact (below_size HBW.out) : w.heap.size ≤ gb102)); have GE102 := Aside0.mk ((Nat.le_trans HW0.out (by rw [hg]; exact (below_size HBW.out) : w.heap.size ≤ gb102) : w0.heap.size ≤ gb102)); replace HBW := Aside0.mk (below_step HBW.out hb); clear hb hbox hg))
   go_ret
   exact ⟨_, rfl, (show IsS74 w0 _ gb102 (l0.take 2000) 0 from ⟨_, _, by exact BK102.out, GE102.out, HR101.out⟩), HB.out, HBW.out⟩
  ·rw [if_neg c3] at H
   exact absurd H (by simp)
 ·rw [if_neg c2] at H
  have c2b0 : decide (2000 < (l0.length : Int)) = false := decide_eq_false c2
  have c2b1 : decide (2000 < l0.length) = false := decide_eq_false (by omega)
  clear c2
  simp only [Option.some.injEq, Prod.mk.injEq] at H
  obtain ⟨rfl, rfl⟩ := H
  go_enter Tryd.func37, Tryd.ntmps37
  go_wp2_with (first | ((with_reducible refine gate_dst (N := 10) rfl ?_); refine box_event ?hg (N := 10) ?hd (cs := #[.slice A0 l0.length c0, .int .i64 0]) (t := 74) ?hr ?_; (case hd => rfl); (case hg => rfl); (case hr => first | (go_simp; done)); intro gb103 hg w6 hbox hb; replace HB := Aside0.mk (below_step HB.out hb); have BK103 := Aside0.mk hbox; have GW103 := Aside0.mk ((by rw [hg]; exact (below_size HBW.out) : w.heap.size ≤ gb103)); have GE103 := Aside0.mk ((Nat.le_trans HW0.out (by rw [hg]; exact (below_size HBW.out) : w.heap.size ≤ gb103) : w0.heap.size ≤ gb103)); replace HBW := Aside0.mk (below_step HBW.out hb); clear hb hbox hg))
  go_ret
  exact ⟨_, rfl, (show IsS74 w0 _ gb103 l0 0 from ⟨_, _, by exact BK103.out, GE103.out, HR0.out⟩), HB.out, HBW.out⟩


def spec_l6Rd_pick.j0 : Nat → Int → Bool → List Int → Int → Option (Int × Int)
 | 0, _, _, _, _ => none
 | k + 1, x1, x24, x1000, x1001 => if x24 = true then (some (0, x1001)) else (if (wrap64 (x1001 - 1)) < (x1000.length : Int) then (if 0 ≤ (wrap64 (x1001 - 1)) then (if x1 = 0 then (none) else (some (Int.tmod (wrap64 (rd x1000 (wrap64 (x1001 - 1)))) x1, x1001))) else (none)) else (if (x1000.length : Int) = 0 then (none) else (if 0 ≤ (Int.tmod (wrap64 (x1001 - 1)) (x1000.length : Int)) then (if (Int.tmod (wrap64 (x1001 - 1)) (x1000.length : Int)) < (x1000.length : Int) then (if 0 ≤ (Int.tmod (wrap64 ((wrap64 ((wrap64 (x1001 - 1)) * 7)) + 3)) (x1000.length : Int)) then (if (Int.tmod (wrap64 ((wrap64 ((wrap64 (x1001 - 1)) * 7)) + 3)) (x1000.length : Int)) < (x1000.length : Int) then (if x1 = 0 then (none) else (some (Int.tmod (Go.bits .xor .i64 (wrap64 ((wrap64 ((wrap64 ((wrap64 ((wrap64 (rd x1000 (Int.tmod (wrap64 (x1001 - 1)) (x1000.length : Int)))) * 131)) + (wrap64 ((wrap64 (rd x1000 (Int.tmod (wrap64 ((wrap64 ((wrap64 (x1001 - 1)) * 7)) + 3)) (x1000.length : Int)))) * 1117)))) + (wrap64 ((wrap64 (x1001 - 1)) * 29)))) + (wrap64 ((wrap64 (Int.tdiv (wrap64 (x1001 - 1)) (x1000.length : Int))) * 53)))) (wrap64 (Int.tdiv (wrap64 ((wrap64 ((wrap64 ((wrap64 ((wrap64 (rd x1000 (Int.tmod (wrap64 (x1001 - 1)) (x1000.length : Int)))) * 131)) + (wrap64 ((wrap64 (rd x1000 (Int.tmod (wrap64 ((wrap64 ((wrap64 (x1001 - 1)) * 7)) + 3)) (x1000.length : Int)))) * 1117)))) + (wrap64 ((wrap64 (x1001 - 1)) * 29)))) + (wrap64 ((wrap64 (Int.tdiv (wrap64 (x1001 - 1)) (x1000.length : Int))) * 53)))) 64))) x1, x1001))) else (none)) else (none)) else (none)) else (none))))
def spec_l6Rd_pick.f (k : Nat) (s0_0 : List Int) (s0_1 : Int) (a1 : Int) : Option (Int × Int) := if a1 < 1 then (spec_l6Rd_pick.j0 k a1 true s0_0 (wrap64 (s0_1 + 1))) else (spec_l6Rd_pick.j0 k a1 ((s0_0.length : Int) == 0) s0_0 (wrap64 (s0_1 + 1)))
theorem spec_l6Rd_pick.mono_l : ∀ k, (∀ y0 y1 y2 y3, LeO (spec_l6Rd_pick.j0 k y0 y1 y2 y3) (spec_l6Rd_pick.j0 (k + 1) y0 y1 y2 y3))
 | 0 => fun _ _ _ _ r h => by simp [spec_l6Rd_pick.j0] at h
 | k + 1 => by
  have ih0 := spec_l6Rd_pick.mono_l k
  ·intro y0 y1 y2 y3
   unfold spec_l6Rd_pick.j0
   repeat' (with_reducible exact LeO.refl _)
theorem spec_l6Rd_pick.mono : ∀ a0 a1 a2 k, LeO (spec_l6Rd_pick.f k a0 a1 a2) (spec_l6Rd_pick.f (k + 1) a0 a1 a2) := by
 intro a0 a1 a2 k
 have ih0 := spec_l6Rd_pick.mono_l k
 unfold spec_l6Rd_pick.f
 repeat' first | (with_reducible exact ih0 _ _ _ _) | (with_reducible refine LeO.ite ?_ ?_)
set_option maxHeartbeats 8000000 in
set_option maxRecDepth 100000 in
theorem spec_l6Rd_pick.calls (k : Nat) (g : Nat) (s0_0 : List Int) (s0_1 : Int) (a1 : Int) (r1 : Int) (r2 : Int) (w0 w : World) (hI : IsS74 w0 w g s0_0 s0_1) (hB : Below w0.heap.size w0 w) (h : spec_l6Rd_pick.f k s0_0 s0_1 a1 = some (r1, r2)) :
  Calls Tryd.prog 39 #[.pointer (some ⟨g, 0, none⟩), .int .i64 a1] w fun e w' => e = .returned (.int .i64 r1) ∧ IsS74 w0 w' g s0_0 r2 ∧ Below w0.heap.size w0 w' ∧ KeepBut w w' g none := by
 have HI0 := Aside0.mk hI
 have HK := Aside0.mk (KeepBut.refl w g none)
 have HL := Aside0.mk hB.size
 clear hI
 have HW0 := Aside0.mk hB.size
 have HB := Aside0.mk hB
 clear hB
 have H : (if a1 < 1 then (spec_l6Rd_pick.j0 k a1 true s0_0 (wrap64 (s0_1 + 1))) else (spec_l6Rd_pick.j0 k a1 ((s0_0.length : Int) == 0) s0_0 (wrap64 (s0_1 + 1)))) = some (r1, r2) := h
 clear h
 have HC3 := Aside0.mk H
 clear H
 obtain ⟨ASz4_0, cSz4_0, HGz4, hgz4, HSz4_0⟩ := HI0.out
 have hcz4_0 := cellS74_0 HGz4
 have hcz4_1 := cellS74_1 HGz4
 have hfz4_1 := blk_frozen HGz4 1
 clear HGz4 hgz4
 go_enter Tryd.func39, Tryd.ntmps39
 go_upto_region 2 with (fail)
 repeat (go_quiet (fail); go_upto_region 2 with (fail))
 go_cut [24] (fun v24 wc => ∃ (kq : Nat) (x24_2 : Bool), v24 = .bool x24_2 ∧ Aside0 (spec_l6Rd_pick.j0 kq a1 x24_2 s0_0 (wrap64 (s0_1 + 1)) = some (r1, r2)) ∧ Aside0 (kq ≤ k) ∧ Aside0 (IsS74 w0 wc g s0_0 (wrap64 (s0_1 + 1))) ∧ Aside0 (KeepBut w wc g none) ∧ Aside0 (Below w0.heap.size w0 wc))
 case first =>
  have H := HC3.out
  clear HC3
  by_cases c5 : a1 < 1
  ·rw [if_pos c5] at H
   have c5b0 : decide (a1 < 1) = true := decide_eq_true c5
   clear c5
   have H' := Aside0.mk H
   clear H
   go_wp2
   repeat (go_quiet (fail); try go_wp2)
   go_meet
   case rel => exact ⟨_, (true), (by rfl), H', ⟨by omega⟩, ⟨by repeat (first | (with_reducible first | exact HI0.out | apply IsS74.set_1))⟩, ⟨by repeat (first | (with_reducible first | exact HK.out | apply KeepBut.set_))⟩, ⟨by repeat (first | (with_reducible first | exact HB.out | refine below_set ?_ (IsS74.ge HI0.out)))⟩⟩
  ·rw [if_neg c5] at H
   have c5b0 : decide (a1 < 1) = false := decide_eq_false c5
   clear c5
   have H' := Aside0.mk H
   clear H
   obtain ⟨ASz6_0, cSz6_0, HGz6, hgz6, HSz6_0⟩ := HI0.out
   have hcz6_0 := cellS74_0 HGz6
   have hcz6_1 := cellS74_1 HGz6
   have hfz6_1 := blk_frozen HGz6 1
   clear HGz6 hgz6
   go_wp2
   repeat (go_quiet (fail); try go_wp2)
   go_meet
   case rel => exact ⟨_, (((s0_0.length : Int) == 0)), (by rfl), H', ⟨by omega⟩, ⟨by repeat (first | (with_reducible first | exact HI0.out | apply IsS74.set_1))⟩, ⟨by repeat (first | (with_reducible first | exact HK.out | apply KeepBut.set_))⟩, ⟨by repeat (first | (with_reducible first | exact HB.out | refine below_set ?_ (IsS74.ge HI0.out)))⟩⟩
 case rest =>
  clear HC3
  try clear hcz4_0
  try clear hcz4_1
  try clear hfz4_1
  obtain ⟨kq, x24_2, rfl, HA, HJ2, HI0, HK, HB⟩ := hcut
  cases kq with
  | zero => exact absurd HA.out (by simp [spec_l6Rd_pick.j0])
  | succ kj2 =>
   have H := HA.out
   clear HA
   simp only [spec_l6Rd_pick.j0] at H
   by_cases c7 : x24_2 = true
   ·subst c7
    replace H : (some (0, (wrap64 (s0_1 + 1)))) = some (r1, r2) := by rw [if_pos rfl] at H; exact H
    simp only [Option.some.injEq, Prod.mk.injEq] at H
    obtain ⟨rfl, rfl⟩ := H
    go_wp2
    repeat (go_quiet (fail); try go_wp2)
    go_ret
    exact ⟨by first | rfl | (simp [*, errW_none, errW_some] <;> rfl), HI0.out, HB.out, HK.out⟩
   ·replace c7 := Bool.eq_false_iff.mpr c7
    subst c7
    replace H : (if (wrap64 ((wrap64 (s0_1 + 1)) - 1)) < (s0_0.length : Int) then (if 0 ≤ (wrap64 ((wrap64 (s0_1 + 1)) - 1)) then (if a1 = 0 then (none) else (some (Int.tmod (wrap64 (rd s0_0 (wrap64 ((wrap64 (s0_1 + 1)) - 1)))) a1, (wrap64 (s0_1 + 1))))) else (none)) else (if (s0_0.length : Int) = 0 then (none) else (if 0 ≤ (Int.tmod (wrap64 ((wrap64 (s0_1 + 1)) - 1)) (s0_0.length : Int)) then (if (Int.tmod (wrap64 ((wrap64 (s0_1 + 1)) - 1)) (s0_0.length : Int)) < (s0_0.length : Int) then (if 0 ≤ (Int.tmod (wrap64 ((wrap64 ((wrap64 ((wrap64 (s0_1 + 1)) - 1)) * 7)) + 3)) (s0_0.length : Int)) then (if (Int.tmod (wrap64 ((wrap64 ((wrap64 ((wrap64 (s0_1 + 1)) - 1)) * 7)) + 3)) (s0_0.length : Int)) < (s0_0.length : Int) then (if a1 = 0 then (none) else (some (Int.tmod (Go.bits .xor .i64 (wrap64 ((wrap64 ((wrap64 ((wrap64 ((wrap64 (rd s0_0 (Int.tmod (wrap64 ((wrap64 (s0_1 + 1)) - 1)) (s0_0.length : Int)))) * 131)) + (wrap64 ((wrap64 (rd s0_0 (Int.tmod (wrap64 ((wrap64 ((wrap64 ((wrap64 (s0_1 + 1)) - 1)) * 7)) + 3)) (s0_0.length : Int)))) * 1117)))) + (wrap64 ((wrap64 ((wrap64 (s0_1 + 1)) - 1)) * 29)))) + (wrap64 ((wrap64 (Int.tdiv (wrap64 ((wrap64 (s0_1 + 1)) - 1)) (s0_0.length : Int))) * 53)))) (wrap64 (Int.tdiv (wrap64 ((wrap64 ((wrap64 ((wrap64 ((wrap64 (rd s0_0 (Int.tmod (wrap64 ((wrap64 (s0_1 + 1)) - 1)) (s0_0.length : Int)))) * 131)) + (wrap64 ((wrap64 (rd s0_0 (Int.tmod (wrap64 ((wrap64 ((wrap64 ((wrap64 (s0_1 + 1)) - 1)) * 7)) + 3)) (s0_0.length : Int)))) * 1117)))) + (wrap64 ((wrap64 ((wrap64 (s0_1 + 1)) - 1)) * 29)))) + (wrap64 ((wrap64 (Int.tdiv (wrap64 ((wrap64 (s0_1 + 1)) - 1)) (s0_0.length : Int))) * 53)))) 64))) a1, (wrap64 (s0_1 + 1))))) else (none)) else (none)) else (none)) else (none)))) = some (r1, r2) := by rw [if_neg (show ¬ (false = true) by decide)] at H; exact H
    by_cases c8 : (wrap64 ((wrap64 (s0_1 + 1)) - 1)) < (s0_0.length : Int)
    ·rw [if_pos c8] at H
     have c8b0 : decide ((wrap64 ((wrap64 (s0_1 + 1)) - 1)) < (s0_0.length : Int)) = true := decide_eq_true c8
     clear c8
     obtain ⟨ji9, hji9⟩ : ∃ j_ : Int, (wrap64 ((wrap64 (s0_1 + 1)) - 1)) = j_ := ⟨_, rfl⟩
     replace H : (if 0 ≤ (ji9) then (if a1 = 0 then (none) else (some (Int.tmod (wrap64 (rd s0_0 (ji9))) a1, (wrap64 (s0_1 + 1))))) else (none)) = some (r1, r2) := by first | (rw [hji9] at H; exact H)
     (try rw [hji9] at c8b0)
     have hji9w : (IntKind.i64.wrap ((wrap64 (s0_1 + 1)) - 1)) = ji9 := (i64_w _).trans hji9
     by_cases c10 : 0 ≤ (ji9)
     ·rw [if_pos c10] at H
      have c10b0 : decide (0 ≤ (ji9)) = true := decide_eq_true c10
      clear c10
      by_cases c11 : a1 = 0
      ·rw [if_pos c11] at H
       exact absurd H (by simp)
      ·rw [if_neg c11] at H
       have c11b0 : (a1 == 0) = false := beq_eq_false_iff_ne.mpr c11
       have c11b1 : (a1 != 0) = true := bne_iff_ne.mpr c11
       simp only [Option.some.injEq, Prod.mk.injEq] at H
       obtain ⟨rfl, rfl⟩ := H
       obtain ⟨ASz12_0, cSz12_0, HGz12, hgz12, HSz12_0⟩ := HI0.out
       have hcz12_0 := cellS74_0 HGz12
       have hcz12_1 := cellS74_1 HGz12
       have hfz12_1 := blk_frozen HGz12 1
       clear HGz12 hgz12
       have p104 : 0 ≤ ((ji9) : Int) := of_decide_eq_true (by (with_reducible assumption))
       have q104 : (ji9) < (s0_0.length : Int) := of_decide_eq_true (by (with_reducible assumption))
       obtain ⟨ad104, e104, hx104_0⟩ := Kd.at_int HSz12_0 (ji9) p104 q104
       cases e104
       replace hx104_0 := pw_cell_below HB.out hx104_0
       replace p104 := eq_true p104
       replace q104 := eq_true q104
       go_wp2
       repeat (go_quiet (fail); try go_wp2)
       go_ret
       exact ⟨by first | rfl | (simp [*, errW_none, errW_some] <;> rfl), HI0.out, HB.out, HK.out⟩
     ·rw [if_neg c10] at H
      exact absurd H (by simp)
    ·rw [if_neg c8] at H
     have c8b0 : decide ((wrap64 ((wrap64 (s0_1 + 1)) - 1)) < (s0_0.length : Int)) = false := decide_eq_false c8
     clear c8
     by_cases c13 : (s0_0.length : Int) = 0
     ·rw [if_pos c13] at H
      exact absurd H (by simp)
     ·rw [if_neg c13] at H
      have c13b0 : ((s0_0.length : Int) == 0) = false := beq_eq_false_iff_ne.mpr c13
      have c13b1 : ((s0_0.length : Int) != 0) = true := bne_iff_ne.mpr c13
      have c13b2 : ¬ (s0_0 = []) := fun h_ => c13 (by rw [h_]; rfl)
      obtain ⟨ji14, hji14⟩ : ∃ j_ : Int, (Int.tmod (wrap64 ((wrap64 (s0_1 + 1)) - 1)) (s0_0.length : Int)) = j_ := ⟨_, rfl⟩
      replace H : (if 0 ≤ (ji14) then (if (ji14) < (s0_0.length : Int) then (if 0 ≤ (Int.tmod (wrap64 ((wrap64 ((wrap64 ((wrap64 (s0_1 + 1)) - 1)) * 7)) + 3)) (s0_0.length : Int)) then (if (Int.tmod (wrap64 ((wrap64 ((wrap64 ((wrap64 (s0_1 + 1)) - 1)) * 7)) + 3)) (s0_0.length : Int)) < (s0_0.length : Int) then (if a1 = 0 then (none) else (some (Int.tmod (Go.bits .xor .i64 (wrap64 ((wrap64 ((wrap64 ((wrap64 ((wrap64 (rd s0_0 (ji14))) * 131)) + (wrap64 ((wrap64 (rd s0_0 (Int.tmod (wrap64 ((wrap64 ((wrap64 ((wrap64 (s0_1 + 1)) - 1)) * 7)) + 3)) (s0_0.length : Int)))) * 1117)))) + (wrap64 ((wrap64 ((wrap64 (s0_1 + 1)) - 1)) * 29)))) + (wrap64 ((wrap64 (Int.tdiv (wrap64 ((wrap64 (s0_1 + 1)) - 1)) (s0_0.length : Int))) * 53)))) (wrap64 (Int.tdiv (wrap64 ((wrap64 ((wrap64 ((wrap64 ((wrap64 (rd s0_0 (ji14))) * 131)) + (wrap64 ((wrap64 (rd s0_0 (Int.tmod (wrap64 ((wrap64 ((wrap64 ((wrap64 (s0_1 + 1)) - 1)) * 7)) + 3)) (s0_0.length : Int)))) * 1117)))) + (wrap64 ((wrap64 ((wrap64 (s0_1 + 1)) - 1)) * 29)))) + (wrap64 ((wrap64 (Int.tdiv (wrap64 ((wrap64 (s0_1 + 1)) - 1)) (s0_0.length : Int))) * 53)))) 64))) a1, (wrap64 (s0_1 + 1))))) else (none)) else (none)) else (none)) else (none)) = some (r1, r2) := by first | (rw [hji14] at H; exact H)
      by_cases c15 : 0 ≤ (ji14)
      ·rw [if_pos c15] at H
       have c15b0 : decide (0 ≤ (ji14)) = true := decide_eq_true c15
       clear c15
       by_cases c16 : (ji14) < (s0_0.length : Int)
       ·rw [if_pos c16] at H
        have c16b0 : decide ((ji14) < (s0_0.length : Int)) = true := decide_eq_true c16
        clear c16
        obtain ⟨ji17, hji17⟩ : ∃ j_ : Int, (Int.tmod (wrap64 ((wrap64 ((wrap64 ((wrap64 (s0_1 + 1)) - 1)) * 7)) + 3)) (s0_0.length : Int)) = j_ := ⟨_, rfl⟩
        replace H : (if 0 ≤ (ji17) then (if (ji17) < (s0_0.length : Int) then (if a1 = 0 then (none) else (some (Int.tmod (Go.bits .xor .i64 (wrap64 ((wrap64 ((wrap64 ((wrap64 ((wrap64 (rd s0_0 (ji14))) * 131)) + (wrap64 ((wrap64 (rd s0_0 (ji17))) * 1117)))) + (wrap64 ((wrap64 ((wrap64 (s0_1 + 1)) - 1)) * 29)))) + (wrap64 ((wrap64 (Int.tdiv (wrap64 ((wrap64 (s0_1 + 1)) - 1)) (s0_0.length : Int))) * 53)))) (wrap64 (Int.tdiv (wrap64 ((wrap64 ((wrap64 ((wrap64 ((wrap64 (rd s0_0 (ji14))) * 131)) + (wrap64 ((wrap64 (rd s0_0 (ji17))) * 1117)))) + (wrap64 ((wrap64 ((wrap64 (s0_1 + 1)) - 1)) * 29)))) + (wrap64 ((wrap64 (Int.tdiv (wrap64 ((wrap64 (s0_1 + 1)) - 1)) (s0_0.length : Int))) * 53)))) 64))) a1, (wrap64 (s0_1 + 1))))) else (none)) else (none)) = some (r1, r2) := by first | (rw [hji17] at H; exact H)
        by_cases c18 : 0 ≤ (ji17)
        ·rw [if_pos c18] at H
         have c18b0 : decide (0 ≤ (ji17)) = true := decide_eq_true c18
         clear c18
         by_cases c19 : (ji17) < (s0_0.length : Int)
         ·rw [if_pos c19] at H
          have c19b0 : decide ((ji17) < (s0_0.length : Int)) = true := decide_eq_true c19
          clear c19
          by_cases c20 : a1 = 0
          ·rw [if_pos c20] at H
           exact absurd H (by simp)
          ·rw [if_neg c20] at H
           have c20b0 : (a1 == 0) = false := beq_eq_false_iff_ne.mpr c20
           have c20b1 : (a1 != 0) = true := bne_iff_ne.mpr c20
           simp only [Option.some.injEq, Prod.mk.injEq] at H
           obtain ⟨rfl, rfl⟩ := H
           obtain ⟨ASz21_0, cSz21_0, HGz21, hgz21, HSz21_0⟩ := HI0.out
           have hcz21_0 := cellS74_0 HGz21
           have hcz21_1 := cellS74_1 HGz21
           have hfz21_1 := blk_frozen HGz21 1
           clear HGz21 hgz21
           have p105 : 0 ≤ ((ji14) : Int) := of_decide_eq_true (by (with_reducible assumption))
           have q105 : (ji14) < (s0_0.length : Int) := of_decide_eq_true (by (with_reducible assumption))
           obtain ⟨ad105, e105, hx105_0⟩ := Kd.at_int HSz21_0 (ji14) p105 q105
           cases e105
           replace hx105_0 := pw_cell_below HB.out hx105_0
           replace p105 := eq_true p105
           replace q105 := eq_true q105
           have p106 : 0 ≤ ((ji17) : Int) := of_decide_eq_true (by (with_reducible assumption))
           have q106 : (ji17) < (s0_0.length : Int) := of_decide_eq_true (by (with_reducible assumption))
           obtain ⟨ad106, e106, hx106_0⟩ := Kd.at_int HSz21_0 (ji17) p106 q106
           obtain rfl : ad105 = ad106 := (by injection e106)
           replace hx106_0 := pw_cell_below HB.out hx106_0
           replace p106 := eq_true p106
           replace q106 := eq_true q106
           go_wp2
           repeat (go_quiet (fail); try go_wp2)
           go_ret
           exact ⟨by first | rfl | (simp [*, errW_none, errW_some] <;> rfl), by repeat (first | (with_reducible first | exact HI0.out | apply IsS74.drewN)), by repeat (first | (with_reducible first | exact HB.out | apply pw_below_drewN)), by repeat (first | (with_reducible first | exact HK.out | apply keep_drewN))⟩
         ·rw [if_neg c19] at H
          exact absurd H (by simp)
        ·rw [if_neg c18] at H
         exact absurd H (by simp)
       ·rw [if_neg c16] at H
        exact absurd H (by simp)
      ·rw [if_neg c15] at H
       exact absurd H (by simp)


def spec_l91Signs.l0 : Nat → List Int → Int → List Int → Int → Option (ByteArray × Int)
 | 0, _, _, _, _ => none
 | k + 1, x7, x8, x1000, x1001 => if x8 > 0 then ((spec_l6Rd_pick.f k x1000 x1001 2).bind fun bt112 => (if x7.length < 140737488355328 then (spec_l91Signs.l0 k (x7 ++ [(wrap64 (48 + bt112.1)) % 256]) (wrap64 (x8 - 1)) x1000 bt112.2) else (none))) else (some (strOfNums x7, x1001))
def spec_l91Signs.f (k : Nat) (s0_0 : List Int) (s0_1 : Int) (a1 : Int) (a2 : Int) : Option (ByteArray × Int) := (spec_l6Rd_pick.f k s0_0 s0_1 a2).bind fun bt110 => (spec_l91Signs.l0 k (([] : List Int)) (wrap64 (a1 + bt110.1)) s0_0 bt110.2)
theorem spec_l91Signs.mono_l : ∀ k, (∀ y0 y1 y2 y3, LeO (spec_l91Signs.l0 k y0 y1 y2 y3) (spec_l91Signs.l0 (k + 1) y0 y1 y2 y3))
 | 0 => fun _ _ _ _ r h => by simp [spec_l91Signs.l0] at h
 | k + 1 => by
  have ih0 := spec_l91Signs.mono_l k
  ·intro y0 y1 y2 y3
   unfold spec_l91Signs.l0
   repeat' first | (with_reducible exact ih0 _ _ _ _) | (with_reducible exact spec_l6Rd_pick.mono _ _ _ _) | (with_reducible exact LeO.refl _) | (with_reducible refine LeO.ite ?_ ?_) | (with_reducible refine LeO.bind ?_ (fun _ => ?_))
theorem spec_l91Signs.mono : ∀ a0 a1 a2 a3 k, LeO (spec_l91Signs.f k a0 a1 a2 a3) (spec_l91Signs.f (k + 1) a0 a1 a2 a3) := by
 intro a0 a1 a2 a3 k
 have ih0 := spec_l91Signs.mono_l k
 unfold spec_l91Signs.f
 repeat' first | (with_reducible exact ih0 _ _ _ _) | (with_reducible exact spec_l6Rd_pick.mono _ _ _ _) | (with_reducible refine LeO.bind ?_ (fun _ => ?_))
set_option maxHeartbeats 8000000 in
set_option maxRecDepth 100000 in
theorem spec_l91Signs.calls (k : Nat) (g : Nat) (s0_0 : List Int) (s0_1 : Int) (a1 : Int) (a2 : Int) (r1 : ByteArray) (r2 : Int) (w0 w : World) (hI : IsS74 w0 w g s0_0 s0_1) (hB : Below w0.heap.size w0 w) (h : spec_l91Signs.f k s0_0 s0_1 a1 a2 = some (r1, r2)) :
  Calls Tryd.prog 65 #[.pointer (some ⟨g, 0, none⟩), .int .i64 a1, .int .i64 a2] w fun e w' => e = .returned (.string r1) ∧ IsS74 w0 w' g s0_0 r2 ∧ Below w0.heap.size w0 w' ∧ KeepBut w w' g none := by
 have HI0 := Aside0.mk hI
 have HK := Aside0.mk (KeepBut.refl w g none)
 have HL := Aside0.mk hB.size
 clear hI
 have HW0 := Aside0.mk hB.size
 have HB := Aside0.mk hB
 clear hB
 have H : ((spec_l6Rd_pick.f k s0_0 s0_1 a2).bind fun bt110 => (spec_l91Signs.l0 k (([] : List Int)) (wrap64 (a1 + bt110.1)) s0_0 bt110.2)) = some (r1, r2) := h
 clear h
 obtain ⟨y107, hy107⟩ : ∃ y_ : List Int, y_ = (([] : List Int)) := ⟨_, rfl⟩
 replace H : ((spec_l6Rd_pick.f k s0_0 s0_1 a2).bind fun bt110 => (spec_l91Signs.l0 k y107 (wrap64 (a1 + bt110.1)) s0_0 bt110.2)) = some (r1, r2) := by first | (rw [hy107]; with_reducible exact H)
 have Ny107 := Aside0.mk hy107
 clear hy107
 replace H := Option.bind_eq_some_iff.mp H
 obtain ⟨⟨t110, t111⟩, A40, H⟩ := H
 replace H : (spec_l91Signs.l0 k y107 (wrap64 (a1 + t110)) s0_0 t111) = some (r1, r2) := H
 have A4 := Aside0.mk A40
 clear A40
 have H' := Aside0.mk H
 clear H
 go_enter Tryd.func65, Tryd.ntmps65
 go_wp2_with (first | ((with_reducible refine gate_dst (N := 9) rfl ?_); refine Kd.R_lit (Kd.int .u8) _ 5 ?hg (N := 9) ?hd (xs := ([] : List Int)) (inner := []) (ok := fun _ => True) (okp := fun _ => True) ?hr ?hp (fun _ hk => hk) trivial (Below.refl _ _) (Nat.le_refl _) (by simp) ?_; (case hd => rfl); (case hg => rfl); (case hr => first | (go_simp; done)); (case hp => exact (Reps.none _ _)); intro v108 w5 ho6 hb hg_ hnew_; clear hg_ hnew_; (rw [← Ny107.out] at ho6); have HO109 := Aside0.mk (Kd.R_lower ho6 (keep_size (w := w) (g := g) (row := none) HK.out)); replace HI0 := Aside0.mk (IsS74.below HI0.out hb); replace HK := Aside0.mk (KeepBut.trans HK.out (KeepBut.of_below hb g none) (.inl rfl)); replace HB := Aside0.mk (below_step HB.out hb); clear hb ho6) | ((with_reducible refine gate_callee (f := 39) rfl ?_); refine goesL_ (some 13) rfl rfl Tryd.func39 (by kernel_rfl) rfl #[.pointer (some ⟨g, 0, none⟩), .int .i64 a2] rfl (by (try simp only [List.map_toArray, List.map_cons, List.map_nil]); rfl) ?_; (with_reducible refine (spec_l6Rd_pick.calls k g s0_0 s0_1 a2 t110 t111 w0 _ ?side1 ?side2 A4.out).mono ?_); (case side1 => repeat ((with_reducible exact HI0.out))); (case side2 => repeat ((with_reducible exact HB.out))); rintro e w7 ⟨rfl, hi, hb, hk⟩; refine ⟨_, rfl, ?_⟩; replace HO109 := Aside0.mk (Kd.R_mono (Kd.R_keep (IsS74.apart (show IsS74 w0 _ g s0_0 s0_1 from by repeat ((with_reducible exact HI0.out))) HO109.out (by decide)) hk (fun _ h => h.2)) (fun _ h => h.1)); replace HK := Aside0.mk (KeepBut.trans HK.out hk (.inl rfl)); replace HB := Aside0.mk hb; replace HI0 := Aside0.mk hi; (try clear hb); (try clear hk); (try clear hi)))
 go_loopg [7, 8] k (fun kq v7 v8 w' => ∃ (x7_1 : List Int) (x8_1 : Int) (x1001_1 : Int), v8 = .int .i64 x8_1 ∧ Aside0 (spec_l91Signs.l0 kq x7_1 x8_1 s0_0 x1001_1 = some (r1, r2)) ∧ Aside0 (kq ≤ k) ∧ Aside0 (Kd.R (Kd.int .u8) 5 w' w.heap.size (fun _ => True) v7 x7_1) ∧ Aside0 (IsS74 w0 w' g s0_0 x1001_1) ∧ Aside0 (KeepBut w w' g none) ∧ Aside0 (Below w0.heap.size w0 w'))
 case atStart => exact ⟨(y107), (wrap64 (a1 + t110)), (t111), (by rfl), H', ⟨Nat.le_refl _⟩, ⟨by exact HO109.out⟩, ⟨HI0.out⟩, ⟨HK.out⟩, ⟨HB.out⟩⟩
 case round =>
  clear H'
  obtain ⟨x7_1, x8_1, x1001_1, rfl, HA, HK1, HO_7, HI0, HK, HB⟩ := hrel
  cases gk with
  | zero => exact absurd HA.out (by simp [spec_l91Signs.l0])
  | succ k1 =>
   have H := HA.out
   clear HA
   simp only [spec_l91Signs.l0] at H
   by_cases c8 : x8_1 > 0
   ·rw [if_pos c8] at H
    have c8b0 : decide (0 < x8_1) = true := decide_eq_true c8
    clear c8
    replace H := Option.bind_eq_some_iff.mp H
    obtain ⟨⟨t112, t113⟩, A90, H⟩ := H
    replace H : (if x7_1.length < 140737488355328 then (spec_l91Signs.l0 k1 (x7_1 ++ [(wrap64 (48 + t112)) % 256]) (wrap64 (x8_1 - 1)) s0_0 t113) else (none)) = some (r1, r2) := H
    have A9 := Aside0.mk A90
    clear A90
    by_cases c10 : x7_1.length < 140737488355328
    ·rw [if_pos c10] at H
     have LMc10 := Aside0.mk c10
     clear c10
     obtain ⟨y114, hy114⟩ : ∃ y_ : List Int, y_ = (x7_1 ++ [(wrap64 (48 + t112)) % 256]) := ⟨_, rfl⟩
     replace H : (spec_l91Signs.l0 k1 y114 (wrap64 (x8_1 - 1)) s0_0 t113) = some (r1, r2) := by first | (rw [hy114]; with_reducible exact H)
     have Ny114 := Aside0.mk hy114
     clear hy114
     have H' := Aside0.mk H
     clear H
     go_wp2_with (first | ((with_reducible refine gate_callee (f := 39) rfl ?_); refine goesL_ (some 21) rfl rfl Tryd.func39 (by kernel_rfl) rfl #[.pointer (some ⟨g, 0, none⟩), .int .i64 2] rfl (by (try simp only [List.map_toArray, List.map_cons, List.map_nil]); rfl) ?_; (with_reducible refine (spec_l6Rd_pick.calls k1 g s0_0 x1001_1 2 t112 t113 w0 _ ?side1 ?side2 A9.out).mono ?_); (case side1 => repeat ((with_reducible exact HI0.out))); (case side2 => repeat ((with_reducible exact HB.out))); rintro e w11 ⟨rfl, hi, hb, hk⟩; refine ⟨_, rfl, ?_⟩; replace HO_7 := Aside0.mk (Kd.R_mono (Kd.R_keep (IsS74.apart (show IsS74 w0 _ g s0_0 x1001_1 from by repeat ((with_reducible exact HI0.out))) HO_7.out (by decide)) hk (fun _ h => h.2)) (fun _ h => h.1)); replace HK := Aside0.mk (KeepBut.trans HK.out hk (.inl rfl)); replace HB := Aside0.mk hb; replace HI0 := Aside0.mk hi; (try clear hb); (try clear hk); (try clear hi)) | ((with_reducible refine gate_builtin (b := .append) (xs := #[.tmp 19, .tmp 24]) rfl ?_); at_builtin; refine Kd.R_append (Kd.int .u8) w.heap.size rfl (.tmp 19) (.tmp 24) 22 5 (.int .u8 0) 1 rfl Tryd.underlying22 info5 rfl (by decide) (by omega) u7 x7_1 ((wrap64 (48 + t112)) % 256) [.int .u8 ((wrap64 (48 + t112)) % 256)] (fun _ => True) (fun _ => False) rfl rfl ?aP (fun _ hk => hk.elim) ?aF ?aO (Below.refl _ _) ?aS ?aL ?_; (case aP => exact rfl); (case aF => exact (fun _ _ => trivial)); (case aO => exact HO_7.out); (case aS => exact (keep_size (w := w) (g := g) (row := none) HK.out)); (case aL => have := LMc10.out; omega); intro v115 w12 ho hb hg hat; rw [← Ny114.out] at ho; replace HI0 := Aside0.mk (IsS74.grown HI0.out hg (IsS74.own_ne HI0.out HO_7.out (by decide))); replace HB := Aside0.mk (below_weaken HB.out HL.out hb); replace HK := Aside0.mk (KeepBut.trans HK.out (KeepBut.of_grown hg g) (Kd.R_base2 HO_7.out)); have HO116 := Aside0.mk ho; clear HO_7; clear ho hb hg hat))
     go_roundg k1
     case measure => have := HK1.out; omega
     case rel => exact ⟨(y114), (wrap64 (x8_1 - 1)), (t113), (by rfl), H', ⟨by have := HK1.out; omega⟩, ⟨by exact HO116.out⟩, ⟨HI0.out⟩, ⟨HK.out⟩, ⟨HB.out⟩⟩
    ·rw [if_neg c10] at H
     exact absurd H (by simp)
   ·rw [if_neg c8] at H
    have c8b0 : decide (0 < x8_1) = false := decide_eq_false c8
    clear c8
    simp only [Option.some.injEq, Prod.mk.injEq] at H
    obtain ⟨rfl, rfl⟩ := H
    have hcv13 := own_string (P := Tryd.prog) Tryd.underlying22 Tryd.underlying5 Tryd.underlying9 (Kd.own_of_R HO_7.out)
    go_wp2
    go_ret
    exact ⟨by first | rfl | (simp [*, errW_none, errW_some] <;> rfl), HI0.out, HB.out, HK.out⟩


def spec_l91Set.f (k : Nat) (s0_0 : List Int) (s0_1 : Int) : Option (ByteArray × Int) := (spec_l91Signs.f k s0_0 s0_1 0 6).bind fun bt117 => (if bt117.1.size + 1 ≤ 9223372036854775807 then ((spec_l91Signs.f k s0_0 bt117.2 1 5).bind fun bt119 => (if bt117.1.size + 1 + bt119.1.size ≤ 9223372036854775807 then (if bt117.1.size + 1 + bt119.1.size + 1 ≤ 9223372036854775807 then ((spec_l6Rd_pick.f k s0_0 bt119.2 24).bind fun bt121 => (if bt121.1 = 0 then ((some (([(⟨#[]⟩ : ByteArray), (⟨#[48]⟩ : ByteArray), (⟨#[40, 41]⟩ : ByteArray), (⟨#[49, 40]⟩ : ByteArray), (⟨#[40, 48, 41, 41]⟩ : ByteArray), (⟨#[97, 40, 49, 41]⟩ : ByteArray), (⟨#[40, 49, 41, 48]⟩ : ByteArray), (⟨#[48, 49, 40, 48, 50, 41]⟩ : ByteArray), (⟨#[48, 40, 40, 49, 41]⟩ : ByteArray)] : List ByteArray) : List ByteArray)).bind fun y123 => ((spec_l6Rd_pick.f k s0_0 bt121.2 9).bind fun bt126 => (if 0 ≤ bt126.1 then (if bt126.1 < (y123.length : Int) then (some (rdOf ByteArray.empty y123 bt126.1, bt126.2)) else (none)) else (none)))) else (if bt121.1 = 1 then ((spec_l91Signs.f k s0_0 bt121.2 0 6).bind fun bt129 => (if bt129.1.size + 3 ≤ 9223372036854775807 then (some (bt129.1 ++ (⟨#[40, 48, 41]⟩ : ByteArray), bt129.2)) else (none))) else (if bt121.1 = 2 then (if 1 ≤ ((((bt117.1 ++ (⟨#[40]⟩ : ByteArray)) ++ bt119.1) ++ (⟨#[41]⟩ : ByteArray)).size : Int) then (if 1 + ((((bt117.1 ++ (⟨#[40]⟩ : ByteArray)) ++ bt119.1) ++ (⟨#[41]⟩ : ByteArray)).extract 1 (((bt117.1 ++ (⟨#[40]⟩ : ByteArray)) ++ bt119.1) ++ (⟨#[41]⟩ : ByteArray)).size).size ≤ 9223372036854775807 then (some ((⟨#[40]⟩ : ByteArray) ++ ((((bt117.1 ++ (⟨#[40]⟩ : ByteArray)) ++ bt119.1) ++ (⟨#[41]⟩ : ByteArray)).extract 1 (((bt117.1 ++ (⟨#[40]⟩ : ByteArray)) ++ bt119.1) ++ (⟨#[41]⟩ : ByteArray)).size), bt121.2)) else (none)) else (none)) else (some (((bt117.1 ++ (⟨#[40]⟩ : ByteArray)) ++ bt119.1) ++ (⟨#[41]⟩ : ByteArray), bt121.2)))))) else (none)) else (none))) else (none))
theorem spec_l91Set.mono : ∀ a0 a1 k, LeO (spec_l91Set.f k a0 a1) (spec_l91Set.f (k + 1) a0 a1) := by
 intro a0 a1 k
 unfold spec_l91Set.f
 repeat' first | (with_reducible exact spec_l6Rd_pick.mono _ _ _ _) | (with_reducible exact spec_l91Signs.mono _ _ _ _ _) | (with_reducible exact LeO.refl _) | (with_reducible refine LeO.ite ?_ ?_) | (with_reducible refine LeO.bind ?_ (fun _ => ?_))
set_option maxHeartbeats 8000000 in
set_option maxRecDepth 100000 in
theorem spec_l91Set.calls (k : Nat) (g : Nat) (s0_0 : List Int) (s0_1 : Int) (r1 : ByteArray) (r2 : Int) (w0 w : World) (hI : IsS74 w0 w g s0_0 s0_1) (hB : Below w0.heap.size w0 w) (h : spec_l91Set.f k s0_0 s0_1 = some (r1, r2)) :
  Calls Tryd.prog 38 #[.pointer (some ⟨g, 0, none⟩)] w fun e w' => e = .returned (.string r1) ∧ IsS74 w0 w' g s0_0 r2 ∧ Below w0.heap.size w0 w' ∧ KeepBut w w' g none := by
 have HI0 := Aside0.mk hI
 have HK := Aside0.mk (KeepBut.refl w g none)
 have HL := Aside0.mk hB.size
 clear hI
 have HW0 := Aside0.mk hB.size
 have HB := Aside0.mk hB
 clear hB
 have H : ((spec_l91Signs.f k s0_0 s0_1 0 6).bind fun bt117 => (if bt117.1.size + 1 ≤ 9223372036854775807 then ((spec_l91Signs.f k s0_0 bt117.2 1 5).bind fun bt119 => (if bt117.1.size + 1 + bt119.1.size ≤ 9223372036854775807 then (if bt117.1.size + 1 + bt119.1.size + 1 ≤ 9223372036854775807 then ((spec_l6Rd_pick.f k s0_0 bt119.2 24).bind fun bt121 => (if bt121.1 = 0 then ((some (([(⟨#[]⟩ : ByteArray), (⟨#[48]⟩ : ByteArray), (⟨#[40, 41]⟩ : ByteArray), (⟨#[49, 40]⟩ : ByteArray), (⟨#[40, 48, 41, 41]⟩ : ByteArray), (⟨#[97, 40, 49, 41]⟩ : ByteArray), (⟨#[40, 49, 41, 48]⟩ : ByteArray), (⟨#[48, 49, 40, 48, 50, 41]⟩ : ByteArray), (⟨#[48, 40, 40, 49, 41]⟩ : ByteArray)] : List ByteArray) : List ByteArray)).bind fun y123 => ((spec_l6Rd_pick.f k s0_0 bt121.2 9).bind fun bt126 => (if 0 ≤ bt126.1 then (if bt126.1 < (y123.length : Int) then (some (rdOf ByteArray.empty y123 bt126.1, bt126.2)) else (none)) else (none)))) else (if bt121.1 = 1 then ((spec_l91Signs.f k s0_0 bt121.2 0 6).bind fun bt129 => (if bt129.1.size + 3 ≤ 9223372036854775807 then (some (bt129.1 ++ (⟨#[40, 48, 41]⟩ : ByteArray), bt129.2)) else (none))) else (if bt121.1 = 2 then (if 1 ≤ ((((bt117.1 ++ (⟨#[40]⟩ : ByteArray)) ++ bt119.1) ++ (⟨#[41]⟩ : ByteArray)).size : Int) then (if 1 + ((((bt117.1 ++ (⟨#[40]⟩ : ByteArray)) ++ bt119.1) ++ (⟨#[41]⟩ : ByteArray)).extract 1 (((bt117.1 ++ (⟨#[40]⟩ : ByteArray)) ++ bt119.1) ++ (⟨#[41]⟩ : ByteArray)).size).size ≤ 9223372036854775807 then (some ((⟨#[40]⟩ : ByteArray) ++ ((((bt117.1 ++ (⟨#[40]⟩ : ByteArray)) ++ bt119.1) ++ (⟨#[41]⟩ : ByteArray)).extract 1 (((bt117.1 ++ (⟨#[40]⟩ : ByteArray)) ++ bt119.1) ++ (⟨#[41]⟩ : ByteArray)).size), bt121.2)) else (none)) else (none)) else (some (((bt117.1 ++ (⟨#[40]⟩ : ByteArray)) ++ bt119.1) ++ (⟨#[41]⟩ : ByteArray), bt121.2)))))) else (none)) else (none))) else (none))) = some (r1, r2) := h
 clear h
 replace H := Option.bind_eq_some_iff.mp H
 obtain ⟨⟨t117, t118⟩, A20, H⟩ := H
 replace H : (if t117.size + 1 ≤ 9223372036854775807 then ((spec_l91Signs.f k s0_0 t118 1 5).bind fun bt119 => (if t117.size + 1 + bt119.1.size ≤ 9223372036854775807 then (if t117.size + 1 + bt119.1.size + 1 ≤ 9223372036854775807 then ((spec_l6Rd_pick.f k s0_0 bt119.2 24).bind fun bt121 => (if bt121.1 = 0 then ((some (([(⟨#[]⟩ : ByteArray), (⟨#[48]⟩ : ByteArray), (⟨#[40, 41]⟩ : ByteArray), (⟨#[49, 40]⟩ : ByteArray), (⟨#[40, 48, 41, 41]⟩ : ByteArray), (⟨#[97, 40, 49, 41]⟩ : ByteArray), (⟨#[40, 49, 41, 48]⟩ : ByteArray), (⟨#[48, 49, 40, 48, 50, 41]⟩ : ByteArray), (⟨#[48, 40, 40, 49, 41]⟩ : ByteArray)] : List ByteArray) : List ByteArray)).bind fun y123 => ((spec_l6Rd_pick.f k s0_0 bt121.2 9).bind fun bt126 => (if 0 ≤ bt126.1 then (if bt126.1 < (y123.length : Int) then (some (rdOf ByteArray.empty y123 bt126.1, bt126.2)) else (none)) else (none)))) else (if bt121.1 = 1 then ((spec_l91Signs.f k s0_0 bt121.2 0 6).bind fun bt129 => (if bt129.1.size + 3 ≤ 9223372036854775807 then (some (bt129.1 ++ (⟨#[40, 48, 41]⟩ : ByteArray), bt129.2)) else (none))) else (if bt121.1 = 2 then (if 1 ≤ ((((t117 ++ (⟨#[40]⟩ : ByteArray)) ++ bt119.1) ++ (⟨#[41]⟩ : ByteArray)).size : Int) then (if 1 + ((((t117 ++ (⟨#[40]⟩ : ByteArray)) ++ bt119.1) ++ (⟨#[41]⟩ : ByteArray)).extract 1 (((t117 ++ (⟨#[40]⟩ : ByteArray)) ++ bt119.1) ++ (⟨#[41]⟩ : ByteArray)).size).size ≤ 9223372036854775807 then (some ((⟨#[40]⟩ : ByteArray) ++ ((((t117 ++ (⟨#[40]⟩ : ByteArray)) ++ bt119.1) ++ (⟨#[41]⟩ : ByteArray)).extract 1 (((t117 ++ (⟨#[40]⟩ : ByteArray)) ++ bt119.1) ++ (⟨#[41]⟩ : ByteArray)).size), bt121.2)) else (none)) else (none)) else (some (((t117 ++ (⟨#[40]⟩ : ByteArray)) ++ bt119.1) ++ (⟨#[41]⟩ : ByteArray), bt121.2)))))) else (none)) else (none))) else (none)) = some (r1, r2) := H
 have A2 := Aside0.mk A20
 clear A20
 by_cases c3 : t117.size + 1 ≤ 9223372036854775807
 ·rw [if_pos c3] at H
  have c3b0 := eq_true c3
  have c3b1 : decide (t117.size + 1 ≤ 9223372036854775807) = true := decide_eq_true c3
  try have c3b2 : (9223372036854775807 < t117.size + 1) = False := eq_false (Nat.not_lt.2 c3)
  replace H := Option.bind_eq_some_iff.mp H
  obtain ⟨⟨t119, t120⟩, A40, H⟩ := H
  replace H : (if t117.size + 1 + t119.size ≤ 9223372036854775807 then (if t117.size + 1 + t119.size + 1 ≤ 9223372036854775807 then ((spec_l6Rd_pick.f k s0_0 t120 24).bind fun bt121 => (if bt121.1 = 0 then ((some (([(⟨#[]⟩ : ByteArray), (⟨#[48]⟩ : ByteArray), (⟨#[40, 41]⟩ : ByteArray), (⟨#[49, 40]⟩ : ByteArray), (⟨#[40, 48, 41, 41]⟩ : ByteArray), (⟨#[97, 40, 49, 41]⟩ : ByteArray), (⟨#[40, 49, 41, 48]⟩ : ByteArray), (⟨#[48, 49, 40, 48, 50, 41]⟩ : ByteArray), (⟨#[48, 40, 40, 49, 41]⟩ : ByteArray)] : List ByteArray) : List ByteArray)).bind fun y123 => ((spec_l6Rd_pick.f k s0_0 bt121.2 9).bind fun bt126 => (if 0 ≤ bt126.1 then (if bt126.1 < (y123.length : Int) then (some (rdOf ByteArray.empty y123 bt126.1, bt126.2)) else (none)) else (none)))) else (if bt121.1 = 1 then ((spec_l91Signs.f k s0_0 bt121.2 0 6).bind fun bt129 => (if bt129.1.size + 3 ≤ 9223372036854775807 then (some (bt129.1 ++ (⟨#[40, 48, 41]⟩ : ByteArray), bt129.2)) else (none))) else (if bt121.1 = 2 then (if 1 ≤ ((((t117 ++ (⟨#[40]⟩ : ByteArray)) ++ t119) ++ (⟨#[41]⟩ : ByteArray)).size : Int) then (if 1 + ((((t117 ++ (⟨#[40]⟩ : ByteArray)) ++ t119) ++ (⟨#[41]⟩ : ByteArray)).extract 1 (((t117 ++ (⟨#[40]⟩ : ByteArray)) ++ t119) ++ (⟨#[41]⟩ : ByteArray)).size).size ≤ 9223372036854775807 then (some ((⟨#[40]⟩ : ByteArray) ++ ((((t117 ++ (⟨#[40]⟩ : ByteArray)) ++ t119) ++ (⟨#[41]⟩ : ByteArray)).extract 1 (((t117 ++ (⟨#[40]⟩ : ByteArray)) ++ t119) ++ (⟨#[41]⟩ : ByteArray)).size), bt121.2)) else (none)) else (none)) else (some (((t117 ++ (⟨#[40]⟩ : ByteArray)) ++ t119) ++ (⟨#[41]⟩ : ByteArray), bt121.2)))))) else (none)) else (none)) = some (r1, r2) := H
  have A4 := Aside0.mk A40
  clear A40
  by_cases c5 : t117.size + 1 + t119.size ≤ 9223372036854775807
  ·rw [if_pos c5] at H
   have c5b0 := eq_true c5
   have c5b1 : decide (t117.size + 1 + t119.size ≤ 9223372036854775807) = true := decide_eq_true c5
   try have c5b2 : (9223372036854775807 < t117.size + 1 + t119.size) = False := eq_false (Nat.not_lt.2 c5)
   by_cases c6 : t117.size + 1 + t119.size + 1 ≤ 9223372036854775807
   ·rw [if_pos c6] at H
    have c6b0 := eq_true c6
    have c6b1 : decide (t117.size + 1 + t119.size + 1 ≤ 9223372036854775807) = true := decide_eq_true c6
    try have c6b2 : (9223372036854775807 < t117.size + 1 + t119.size + 1) = False := eq_false (Nat.not_lt.2 c6)
    replace H := Option.bind_eq_some_iff.mp H
    obtain ⟨⟨t121, t122⟩, A70, H⟩ := H
    replace H : (if t121 = 0 then ((some (([(⟨#[]⟩ : ByteArray), (⟨#[48]⟩ : ByteArray), (⟨#[40, 41]⟩ : ByteArray), (⟨#[49, 40]⟩ : ByteArray), (⟨#[40, 48, 41, 41]⟩ : ByteArray), (⟨#[97, 40, 49, 41]⟩ : ByteArray), (⟨#[40, 49, 41, 48]⟩ : ByteArray), (⟨#[48, 49, 40, 48, 50, 41]⟩ : ByteArray), (⟨#[48, 40, 40, 49, 41]⟩ : ByteArray)] : List ByteArray) : List ByteArray)).bind fun y123 => ((spec_l6Rd_pick.f k s0_0 t122 9).bind fun bt126 => (if 0 ≤ bt126.1 then (if bt126.1 < (y123.length : Int) then (some (rdOf ByteArray.empty y123 bt126.1, bt126.2)) else (none)) else (none)))) else (if t121 = 1 then ((spec_l91Signs.f k s0_0 t122 0 6).bind fun bt129 => (if bt129.1.size + 3 ≤ 9223372036854775807 then (some (bt129.1 ++ (⟨#[40, 48, 41]⟩ : ByteArray), bt129.2)) else (none))) else (if t121 = 2 then (if 1 ≤ ((((t117 ++ (⟨#[40]⟩ : ByteArray)) ++ t119) ++ (⟨#[41]⟩ : ByteArray)).size : Int) then (if 1 + ((((t117 ++ (⟨#[40]⟩ : ByteArray)) ++ t119) ++ (⟨#[41]⟩ : ByteArray)).extract 1 (((t117 ++ (⟨#[40]⟩ : ByteArray)) ++ t119) ++ (⟨#[41]⟩ : ByteArray)).size).size ≤ 9223372036854775807 then (some ((⟨#[40]⟩ : ByteArray) ++ ((((t117 ++ (⟨#[40]⟩ : ByteArray)) ++ t119) ++ (⟨#[41]⟩ : ByteArray)).extract 1 (((t117 ++ (⟨#[40]⟩ : ByteArray)) ++ t119) ++ (⟨#[41]⟩ : ByteArray)).size), t122)) else (none)) else (none)) else (some (((t117 ++ (⟨#[40]⟩ : ByteArray)) ++ t119) ++ (⟨#[41]⟩ : ByteArray), t122))))) = some (r1, r2) := H
    have A7 := Aside0.mk A70
    clear A70
    by_cases c8 : t121 = 0
    ·rw [if_pos c8] at H
     have c8b0 : (t121 == 0) = true := beq_iff_eq.mpr c8
     have c8b1 : (t121 != 0) = false := bne_eq_false_iff_eq.mpr c8
     clear c8
     obtain ⟨y123, hy123⟩ : ∃ y_ : List ByteArray, y_ = (([(⟨#[]⟩ : ByteArray), (⟨#[48]⟩ : ByteArray), (⟨#[40, 41]⟩ : ByteArray), (⟨#[49, 40]⟩ : ByteArray), (⟨#[40, 48, 41, 41]⟩ : ByteArray), (⟨#[97, 40, 49, 41]⟩ : ByteArray), (⟨#[40, 49, 41, 48]⟩ : ByteArray), (⟨#[48, 49, 40, 48, 50, 41]⟩ : ByteArray), (⟨#[48, 40, 40, 49, 41]⟩ : ByteArray)] : List ByteArray)) := ⟨_, rfl⟩
     replace H : ((spec_l6Rd_pick.f k s0_0 t122 9).bind fun bt126 => (if 0 ≤ bt126.1 then (if bt126.1 < (y123.length : Int) then (some (rdOf ByteArray.empty y123 bt126.1, bt126.2)) else (none)) else (none))) = some (r1, r2) := by first | (have H2_ := (Option.bind_some _ _).symm.trans H; rw [hy123]; with_reducible exact H2_)
     have Ny123 := Aside0.mk hy123
     clear hy123
     replace H := Option.bind_eq_some_iff.mp H
     obtain ⟨⟨t126, t127⟩, A90, H⟩ := H
     replace H : (if 0 ≤ t126 then (if t126 < (y123.length : Int) then (some (rdOf ByteArray.empty y123 t126, t127)) else (none)) else (none)) = some (r1, r2) := H
     have A9 := Aside0.mk A90
     clear A90
     by_cases c10 : 0 ≤ t126
     ·rw [if_pos c10] at H
      have c10b0 : decide (0 ≤ t126) = true := decide_eq_true c10
      clear c10
      by_cases c11 : t126 < (y123.length : Int)
      ·rw [if_pos c11] at H
       have c11b0 : decide (t126 < (y123.length : Int)) = true := decide_eq_true c11
       clear c11
       simp only [Option.some.injEq, Prod.mk.injEq] at H
       obtain ⟨rfl, rfl⟩ := H
       go_enter Tryd.func38, Tryd.ntmps38
       go_wp2_with (first | ((with_reducible refine gate_callee (f := 65) rfl ?_); refine goesL_ (some 5) rfl rfl Tryd.func65 (by kernel_rfl) rfl #[.pointer (some ⟨g, 0, none⟩), .int .i64 0, .int .i64 6] rfl (by (try simp only [List.map_toArray, List.map_cons, List.map_nil]); rfl) ?_; (with_reducible refine (spec_l91Signs.calls k g s0_0 s0_1 0 6 t117 t118 w0 _ ?side1 ?side2 A2.out).mono ?_); (case side1 => repeat ((with_reducible exact HI0.out))); (case side2 => repeat ((with_reducible exact HB.out))); rintro e w12 ⟨rfl, hi, hb, hk⟩; refine ⟨_, rfl, ?_⟩; replace HK := Aside0.mk (KeepBut.trans HK.out hk (.inl rfl)); replace HB := Aside0.mk hb; replace HI0 := Aside0.mk hi; (try clear hb); (try clear hk); (try clear hi)) | ((with_reducible refine gate_callee (f := 65) rfl ?_); refine goesL_ (some 8) rfl rfl Tryd.func65 (by kernel_rfl) rfl #[.pointer (some ⟨g, 0, none⟩), .int .i64 1, .int .i64 5] rfl (by (try simp only [List.map_toArray, List.map_cons, List.map_nil]); rfl) ?_; (with_reducible refine (spec_l91Signs.calls k g s0_0 t118 1 5 t119 t120 w0 _ ?side1 ?side2 A4.out).mono ?_); (case side1 => repeat ((with_reducible exact HI0.out))); (case side2 => repeat ((with_reducible exact HB.out))); rintro e w13 ⟨rfl, hi, hb, hk⟩; refine ⟨_, rfl, ?_⟩; replace HK := Aside0.mk (KeepBut.trans HK.out hk (.inl rfl)); replace HB := Aside0.mk hb; replace HI0 := Aside0.mk hi; (try clear hb); (try clear hk); (try clear hi)) | ((with_reducible refine gate_callee (f := 39) rfl ?_); refine goesL_ (some 12) rfl rfl Tryd.func39 (by kernel_rfl) rfl #[.pointer (some ⟨g, 0, none⟩), .int .i64 24] rfl (by (try simp only [List.map_toArray, List.map_cons, List.map_nil]); rfl) ?_; (with_reducible refine (spec_l6Rd_pick.calls k g s0_0 t120 24 t121 t122 w0 _ ?side1 ?side2 A7.out).mono ?_); (case side1 => repeat ((with_reducible exact HI0.out))); (case side2 => repeat ((with_reducible exact HB.out))); rintro e w14 ⟨rfl, hi, hb, hk⟩; refine ⟨_, rfl, ?_⟩; replace HK := Aside0.mk (KeepBut.trans HK.out hk (.inl rfl)); replace HB := Aside0.mk hb; replace HI0 := Aside0.mk hi; (try clear hb); (try clear hk); (try clear hi)) | ((with_reducible refine gate_dst (N := 15) rfl ?_); refine Kd.R_lit Kd.string _ 9 ?hg (N := 15) ?hd (xs := ([(⟨#[]⟩ : ByteArray), (⟨#[48]⟩ : ByteArray), (⟨#[40, 41]⟩ : ByteArray), (⟨#[49, 40]⟩ : ByteArray), (⟨#[40, 48, 41, 41]⟩ : ByteArray), (⟨#[97, 40, 49, 41]⟩ : ByteArray), (⟨#[40, 49, 41, 48]⟩ : ByteArray), (⟨#[48, 49, 40, 48, 50, 41]⟩ : ByteArray), (⟨#[48, 40, 40, 49, 41]⟩ : ByteArray)] : List ByteArray)) (inner := [.string (⟨#[]⟩ : ByteArray), .string (⟨#[48]⟩ : ByteArray), .string (⟨#[40, 41]⟩ : ByteArray), .string (⟨#[49, 40]⟩ : ByteArray), .string (⟨#[40, 48, 41, 41]⟩ : ByteArray), .string (⟨#[97, 40, 49, 41]⟩ : ByteArray), .string (⟨#[40, 49, 41, 48]⟩ : ByteArray), .string (⟨#[48, 49, 40, 48, 50, 41]⟩ : ByteArray), .string (⟨#[48, 40, 40, 49, 41]⟩ : ByteArray)]) (ok := fun _ => True) (okp := fun _ => True) ?hr ?hp (fun _ hk => hk) trivial (Below.refl _ _) (Nat.le_refl _) (by simp) ?_; (case hd => rfl); (case hg => rfl); (case hr => first | (go_simp; done)); (case hp => exact (Reps.one (show Kd.M Kd.string _ _ _ (⟨#[]⟩ : ByteArray) [.string (⟨#[]⟩ : ByteArray)] from rfl) (Reps.one (show Kd.M Kd.string _ _ _ (⟨#[48]⟩ : ByteArray) [.string (⟨#[48]⟩ : ByteArray)] from rfl) (Reps.one (show Kd.M Kd.string _ _ _ (⟨#[40, 41]⟩ : ByteArray) [.string (⟨#[40, 41]⟩ : ByteArray)] from rfl) (Reps.one (show Kd.M Kd.string _ _ _ (⟨#[49, 40]⟩ : ByteArray) [.string (⟨#[49, 40]⟩ : ByteArray)] from rfl) (Reps.one (show Kd.M Kd.string _ _ _ (⟨#[40, 48, 41, 41]⟩ : ByteArray) [.string (⟨#[40, 48, 41, 41]⟩ : ByteArray)] from rfl) (Reps.one (show Kd.M Kd.string _ _ _ (⟨#[97, 40, 49, 41]⟩ : ByteArray) [.string (⟨#[97, 40, 49, 41]⟩ : ByteArray)] from rfl) (Reps.one (show Kd.M Kd.string _ _ _ (⟨#[40, 49, 41, 48]⟩ : ByteArray) [.string (⟨#[40, 49, 41, 48]⟩ : ByteArray)] from rfl) (Reps.one (show Kd.M Kd.string _ _ _ (⟨#[48, 49, 40, 48, 50, 41]⟩ : ByteArray) [.string (⟨#[48, 49, 40, 48, 50, 41]⟩ : ByteArray)] from rfl) (Reps.one (show Kd.M Kd.string _ _ _ (⟨#[48, 40, 40, 49, 41]⟩ : ByteArray) [.string (⟨#[48, 40, 40, 49, 41]⟩ : ByteArray)] from rfl) (Reps.none _ _))))))))))); intro v124 w15 ho16 hb hg_ hnew_; clear hg_ hnew_; (rw [← Ny123.out] at ho16); have HO125 := Aside0.mk (Kd.R_lower ho16 (keep_size (w := w) (g := g) (row := none) HK.out)); replace HI0 := Aside0.mk (IsS74.below HI0.out hb); replace HK := Aside0.mk (KeepBut.trans HK.out (KeepBut.of_below hb g none) (.inl rfl)); replace HB := Aside0.mk (below_step HB.out hb); clear hb ho16) | ((with_reducible refine gate_callee (f := 39) rfl ?_); refine goesL_ (some 17) rfl rfl Tryd.func39 (by kernel_rfl) rfl #[.pointer (some ⟨g, 0, none⟩), .int .i64 9] rfl (by (try simp only [List.map_toArray, List.map_cons, List.map_nil]); rfl) ?_; (with_reducible refine (spec_l6Rd_pick.calls k g s0_0 t122 9 t126 t127 w0 _ ?side1 ?side2 A9.out).mono ?_); (case side1 => repeat ((with_reducible exact HI0.out))); (case side2 => repeat ((with_reducible exact HB.out))); rintro e w17 ⟨rfl, hi, hb, hk⟩; refine ⟨_, rfl, ?_⟩; replace HO125 := Aside0.mk (Kd.R_mono (Kd.R_keep (IsS74.apart (show IsS74 w0 _ g s0_0 t122 from by repeat ((with_reducible exact HI0.out))) HO125.out (by decide)) hk (fun _ h => h.2)) (fun _ h => h.1)); replace HK := Aside0.mk (KeepBut.trans HK.out hk (.inl rfl)); replace HB := Aside0.mk hb; replace HI0 := Aside0.mk hi; (try clear hb); (try clear hk); (try clear hi); obtain ⟨Ao18, co18, eo18⟩ := Kd.R_slice HO125.out; subst eo18; have p128 : 0 ≤ (t126 : Int) := of_decide_eq_true (by (with_reducible assumption)); have q128 : t126 < (y123.length : Int) := of_decide_eq_true (by (with_reducible assumption)); obtain ⟨ad128, e128, hx128_0⟩ := Kd.at_string (Kd.R_reads' HO125.out).2.2 t126 p128 q128; cases e128; replace p128 := eq_true p128; replace q128 := eq_true q128))
       go_ret
       exact ⟨by first | rfl | (simp [*, errW_none, errW_some] <;> rfl), HI0.out, HB.out, HK.out⟩
      ·rw [if_neg c11] at H
       exact absurd H (by simp)
     ·rw [if_neg c10] at H
      exact absurd H (by simp)
    ·rw [if_neg c8] at H
     have c8b0 : (t121 == 0) = false := beq_eq_false_iff_ne.mpr c8
     have c8b1 : (t121 != 0) = true := bne_iff_ne.mpr c8
     by_cases c19 : t121 = 1
     ·rw [if_pos c19] at H
      have c19b0 : (t121 == 1) = true := beq_iff_eq.mpr c19
      have c19b1 : (t121 != 1) = false := bne_eq_false_iff_eq.mpr c19
      clear c19
      replace H := Option.bind_eq_some_iff.mp H
      obtain ⟨⟨t129, t130⟩, A200, H⟩ := H
      replace H : (if t129.size + 3 ≤ 9223372036854775807 then (some (t129 ++ (⟨#[40, 48, 41]⟩ : ByteArray), t130)) else (none)) = some (r1, r2) := H
      have A20 := Aside0.mk A200
      clear A200
      by_cases c21 : t129.size + 3 ≤ 9223372036854775807
      ·rw [if_pos c21] at H
       have c21b0 := eq_true c21
       have c21b1 : decide (t129.size + 3 ≤ 9223372036854775807) = true := decide_eq_true c21
       try have c21b2 : (9223372036854775807 < t129.size + 3) = False := eq_false (Nat.not_lt.2 c21)
       simp only [Option.some.injEq, Prod.mk.injEq] at H
       obtain ⟨rfl, rfl⟩ := H
       go_enter Tryd.func38, Tryd.ntmps38
       go_wp2_with (first | ((with_reducible refine gate_callee (f := 65) rfl ?_); refine goesL_ (some 5) rfl rfl Tryd.func65 (by kernel_rfl) rfl #[.pointer (some ⟨g, 0, none⟩), .int .i64 0, .int .i64 6] rfl (by (try simp only [List.map_toArray, List.map_cons, List.map_nil]); rfl) ?_; (with_reducible refine (spec_l91Signs.calls k g s0_0 s0_1 0 6 t117 t118 w0 _ ?side1 ?side2 A2.out).mono ?_); (case side1 => repeat ((with_reducible exact HI0.out))); (case side2 => repeat ((with_reducible exact HB.out))); rintro e w22 ⟨rfl, hi, hb, hk⟩; refine ⟨_, rfl, ?_⟩; replace HK := Aside0.mk (KeepBut.trans HK.out hk (.inl rfl)); replace HB := Aside0.mk hb; replace HI0 := Aside0.mk hi; (try clear hb); (try clear hk); (try clear hi)) | ((with_reducible refine gate_callee (f := 65) rfl ?_); refine goesL_ (some 8) rfl rfl Tryd.func65 (by kernel_rfl) rfl #[.pointer (some ⟨g, 0, none⟩), .int .i64 1, .int .i64 5] rfl (by (try simp only [List.map_toArray, List.map_cons, List.map_nil]); rfl) ?_; (with_reducible refine (spec_l91Signs.calls k g s0_0 t118 1 5 t119 t120 w0 _ ?side1 ?side2 A4.out).mono ?_); (case side1 => repeat ((with_reducible exact HI0.out))); (case side2 => repeat ((with_reducible exact HB.out))); rintro e w23 ⟨rfl, hi, hb, hk⟩; refine ⟨_, rfl, ?_⟩; replace HK := Aside0.mk (KeepBut.trans HK.out hk (.inl rfl)); replace HB := Aside0.mk hb; replace HI0 := Aside0.mk hi; (try clear hb); (try clear hk); (try clear hi)) | ((with_reducible refine gate_callee (f := 39) rfl ?_); refine goesL_ (some 12) rfl rfl Tryd.func39 (by kernel_rfl) rfl #[.pointer (some ⟨g, 0, none⟩), .int .i64 24] rfl (by (try simp only [List.map_toArray, List.map_cons, List.map_nil]); rfl) ?_; (with_reducible refine (spec_l6Rd_pick.calls k g s0_0 t120 24 t121 t122 w0 _ ?side1 ?side2 A7.out).mono ?_); (case side1 => repeat ((with_reducible exact HI0.out))); (case side2 => repeat ((with_reducible exact HB.out))); rintro e w24 ⟨rfl, hi, hb, hk⟩; refine ⟨_, rfl, ?_⟩; replace HK := Aside0.mk (KeepBut.trans HK.out hk (.inl rfl)); replace HB := Aside0.mk hb; replace HI0 := Aside0.mk hi; (try clear hb); (try clear hk); (try clear hi)) | ((with_reducible refine gate_callee (f := 65) rfl ?_); refine goesL_ (some 23) rfl rfl Tryd.func65 (by kernel_rfl) rfl #[.pointer (some ⟨g, 0, none⟩), .int .i64 0, .int .i64 6] rfl (by (try simp only [List.map_toArray, List.map_cons, List.map_nil]); rfl) ?_; (with_reducible refine (spec_l91Signs.calls k g s0_0 t122 0 6 t129 t130 w0 _ ?side1 ?side2 A20.out).mono ?_); (case side1 => repeat ((with_reducible exact HI0.out))); (case side2 => repeat ((with_reducible exact HB.out))); rintro e w25 ⟨rfl, hi, hb, hk⟩; refine ⟨_, rfl, ?_⟩; replace HK := Aside0.mk (KeepBut.trans HK.out hk (.inl rfl)); replace HB := Aside0.mk hb; replace HI0 := Aside0.mk hi; (try clear hb); (try clear hk); (try clear hi)))
       go_ret
       exact ⟨by first | rfl | (simp [*, errW_none, errW_some] <;> rfl), HI0.out, HB.out, HK.out⟩
      ·rw [if_neg c21] at H
       exact absurd H (by simp)
     ·rw [if_neg c19] at H
      have c19b0 : (t121 == 1) = false := beq_eq_false_iff_ne.mpr c19
      have c19b1 : (t121 != 1) = true := bne_iff_ne.mpr c19
      by_cases c26 : t121 = 2
      ·rw [if_pos c26] at H
       have c26b0 : (t121 == 2) = true := beq_iff_eq.mpr c26
       have c26b1 : (t121 != 2) = false := bne_eq_false_iff_eq.mpr c26
       clear c26
       by_cases c27 : 1 ≤ ((((t117 ++ (⟨#[40]⟩ : ByteArray)) ++ t119) ++ (⟨#[41]⟩ : ByteArray)).size : Int)
       ·rw [if_pos c27] at H
        have c27b0 := eq_true c27
        have c27b1 : decide (1 ≤ ((((t117 ++ (⟨#[40]⟩ : ByteArray)) ++ t119) ++ (⟨#[41]⟩ : ByteArray)).size : Int)) = true := decide_eq_true c27
        by_cases c28 : 1 + ((((t117 ++ (⟨#[40]⟩ : ByteArray)) ++ t119) ++ (⟨#[41]⟩ : ByteArray)).extract 1 (((t117 ++ (⟨#[40]⟩ : ByteArray)) ++ t119) ++ (⟨#[41]⟩ : ByteArray)).size).size ≤ 9223372036854775807
        ·rw [if_pos c28] at H
         have c28b0 := eq_true c28
         have c28b1 : decide (1 + ((((t117 ++ (⟨#[40]⟩ : ByteArray)) ++ t119) ++ (⟨#[41]⟩ : ByteArray)).extract 1 (((t117 ++ (⟨#[40]⟩ : ByteArray)) ++ t119) ++ (⟨#[41]⟩ : ByteArray)).size).size ≤ 9223372036854775807) = true := decide_eq_true c28
         try have c28b2 : (9223372036854775807 < 1 + ((((t117 ++ (⟨#[40]⟩ : ByteArray)) ++ t119) ++ (⟨#[41]⟩ : ByteArray)).extract 1 (((t117 ++ (⟨#[40]⟩ : ByteArray)) ++ t119) ++ (⟨#[41]⟩ : ByteArray)).size).size) = False := eq_false (Nat.not_lt.2 c28)
         simp only [Option.some.injEq, Prod.mk.injEq] at H
         obtain ⟨rfl, rfl⟩ := H
         go_enter Tryd.func38, Tryd.ntmps38
         go_wp2_with (first | ((with_reducible refine gate_callee (f := 65) rfl ?_); refine goesL_ (some 5) rfl rfl Tryd.func65 (by kernel_rfl) rfl #[.pointer (some ⟨g, 0, none⟩), .int .i64 0, .int .i64 6] rfl (by (try simp only [List.map_toArray, List.map_cons, List.map_nil]); rfl) ?_; (with_reducible refine (spec_l91Signs.calls k g s0_0 s0_1 0 6 t117 t118 w0 _ ?side1 ?side2 A2.out).mono ?_); (case side1 => repeat ((with_reducible exact HI0.out))); (case side2 => repeat ((with_reducible exact HB.out))); rintro e w29 ⟨rfl, hi, hb, hk⟩; refine ⟨_, rfl, ?_⟩; replace HK := Aside0.mk (KeepBut.trans HK.out hk (.inl rfl)); replace HB := Aside0.mk hb; replace HI0 := Aside0.mk hi; (try clear hb); (try clear hk); (try clear hi)) | ((with_reducible refine gate_callee (f := 65) rfl ?_); refine goesL_ (some 8) rfl rfl Tryd.func65 (by kernel_rfl) rfl #[.pointer (some ⟨g, 0, none⟩), .int .i64 1, .int .i64 5] rfl (by (try simp only [List.map_toArray, List.map_cons, List.map_nil]); rfl) ?_; (with_reducible refine (spec_l91Signs.calls k g s0_0 t118 1 5 t119 t120 w0 _ ?side1 ?side2 A4.out).mono ?_); (case side1 => repeat ((with_reducible exact HI0.out))); (case side2 => repeat ((with_reducible exact HB.out))); rintro e w30 ⟨rfl, hi, hb, hk⟩; refine ⟨_, rfl, ?_⟩; replace HK := Aside0.mk (KeepBut.trans HK.out hk (.inl rfl)); replace HB := Aside0.mk hb; replace HI0 := Aside0.mk hi; (try clear hb); (try clear hk); (try clear hi)) | ((with_reducible refine gate_callee (f := 39) rfl ?_); refine goesL_ (some 12) rfl rfl Tryd.func39 (by kernel_rfl) rfl #[.pointer (some ⟨g, 0, none⟩), .int .i64 24] rfl (by (try simp only [List.map_toArray, List.map_cons, List.map_nil]); rfl) ?_; (with_reducible refine (spec_l6Rd_pick.calls k g s0_0 t120 24 t121 t122 w0 _ ?side1 ?side2 A7.out).mono ?_); (case side1 => repeat ((with_reducible exact HI0.out))); (case side2 => repeat ((with_reducible exact HB.out))); rintro e w31 ⟨rfl, hi, hb, hk⟩; refine ⟨_, rfl, ?_⟩; replace HK := Aside0.mk (KeepBut.trans HK.out hk (.inl rfl)); replace HB := Aside0.mk hb; replace HI0 := Aside0.mk hi; (try clear hb); (try clear hk); (try clear hi)))
         go_ret
         exact ⟨by first | (simp [errW_none, errW_some] <;> rfl) | (simp [*, errW_none, errW_some] <;> rfl), HI0.out, HB.out, HK.out⟩
        ·rw [if_neg c28] at H
         exact absurd H (by simp)
       ·rw [if_neg c27] at H
        exact absurd H (by simp)
      ·rw [if_neg c26] at H
       have c26b0 : (t121 == 2) = false := beq_eq_false_iff_ne.mpr c26
       have c26b1 : (t121 != 2) = true := bne_iff_ne.mpr c26
       simp only [Option.some.injEq, Prod.mk.injEq] at H
       obtain ⟨rfl, rfl⟩ := H
       go_enter Tryd.func38, Tryd.ntmps38
       go_wp2_with (first | ((with_reducible refine gate_callee (f := 65) rfl ?_); refine goesL_ (some 5) rfl rfl Tryd.func65 (by kernel_rfl) rfl #[.pointer (some ⟨g, 0, none⟩), .int .i64 0, .int .i64 6] rfl (by (try simp only [List.map_toArray, List.map_cons, List.map_nil]); rfl) ?_; (with_reducible refine (spec_l91Signs.calls k g s0_0 s0_1 0 6 t117 t118 w0 _ ?side1 ?side2 A2.out).mono ?_); (case side1 => repeat ((with_reducible exact HI0.out))); (case side2 => repeat ((with_reducible exact HB.out))); rintro e w32 ⟨rfl, hi, hb, hk⟩; refine ⟨_, rfl, ?_⟩; replace HK := Aside0.mk (KeepBut.trans HK.out hk (.inl rfl)); replace HB := Aside0.mk hb; replace HI0 := Aside0.mk hi; (try clear hb); (try clear hk); (try clear hi)) | ((with_reducible refine gate_callee (f := 65) rfl ?_); refine goesL_ (some 8) rfl rfl Tryd.func65 (by kernel_rfl) rfl #[.pointer (some ⟨g, 0, none⟩), .int .i64 1, .int .i64 5] rfl (by (try simp only [List.map_toArray, List.map_cons, List.map_nil]); rfl) ?_; (with_reducible refine (spec_l91Signs.calls k g s0_0 t118 1 5 t119 t120 w0 _ ?side1 ?side2 A4.out).mono ?_); (case side1 => repeat ((with_reducible exact HI0.out))); (case side2 => repeat ((with_reducible exact HB.out))); rintro e w33 ⟨rfl, hi, hb, hk⟩; refine ⟨_, rfl, ?_⟩; replace HK := Aside0.mk (KeepBut.trans HK.out hk (.inl rfl)); replace HB := Aside0.mk hb; replace HI0 := Aside0.mk hi; (try clear hb); (try clear hk); (try clear hi)) | ((with_reducible refine gate_callee (f := 39) rfl ?_); refine goesL_ (some 12) rfl rfl Tryd.func39 (by kernel_rfl) rfl #[.pointer (some ⟨g, 0, none⟩), .int .i64 24] rfl (by (try simp only [List.map_toArray, List.map_cons, List.map_nil]); rfl) ?_; (with_reducible refine (spec_l6Rd_pick.calls k g s0_0 t120 24 t121 t122 w0 _ ?side1 ?side2 A7.out).mono ?_); (case side1 => repeat ((with_reducible exact HI0.out))); (case side2 => repeat ((with_reducible exact HB.out))); rintro e w34 ⟨rfl, hi, hb, hk⟩; refine ⟨_, rfl, ?_⟩; replace HK := Aside0.mk (KeepBut.trans HK.out hk (.inl rfl)); replace HB := Aside0.mk hb; replace HI0 := Aside0.mk hi; (try clear hb); (try clear hk); (try clear hi)))
       go_ret
       exact ⟨by first | rfl | (simp [*, errW_none, errW_some] <;> rfl), HI0.out, HB.out, HK.out⟩
   ·rw [if_neg c6] at H
    exact absurd H (by simp)
  ·rw [if_neg c5] at H
   exact absurd H (by simp)
 ·rw [if_neg c3] at H
  exact absurd H (by simp)


def spec_l6Dec.f : Nat → Int → Option (ByteArray)
 | 0, _ => none
 | k + 1, a0 => if a0 < (-9223372036854775807) then (some (⟨#[45, 57, 50, 50, 51, 51, 55, 50, 48, 51, 54, 56, 53, 52, 55, 55, 53, 56, 48, 56]⟩ : ByteArray)) else (if a0 < 0 then ((spec_l6Dec.f k (wrap64 (-a0))).bind fun t358 => (if 1 + t358.size ≤ 9223372036854775807 then (some ((⟨#[45]⟩ : ByteArray) ++ t358)) else (none))) else (if a0 < 10 then (some (strOfNums (([(wrap64 (48 + a0)) % 256] : List Int)))) else ((spec_l6Dec.f k (wrap64 (Int.tdiv a0 10))).bind fun t362 => ((some (([(wrap64 (48 + (Int.tmod a0 10))) % 256] : List Int) : List Int)).bind fun y363 => (if t362.size + (strOfNums y363).size ≤ 9223372036854775807 then (some (t362 ++ (strOfNums y363))) else (none))))))
theorem spec_l6Dec.mono_l : ∀ k, (∀ y0, LeO (spec_l6Dec.f k y0) (spec_l6Dec.f (k + 1) y0))
 | 0 => fun _ r h => by simp [spec_l6Dec.f] at h
 | k + 1 => by
  have ih0 := spec_l6Dec.mono_l k
  ·intro y0
   unfold spec_l6Dec.f
   repeat' first | (with_reducible exact ih0 _) | (with_reducible exact LeO.refl _) | (with_reducible refine LeO.ite ?_ ?_) | (with_reducible refine LeO.bind ?_ (fun _ => ?_))
theorem spec_l6Dec.mono : ∀ a0 k, LeO (spec_l6Dec.f k a0) (spec_l6Dec.f (k + 1) a0) := by
 intro a0 k
 have ih0 := spec_l6Dec.mono_l k
 exact ih0 a0
def spec_l6Dec.T7 : Bool × List (List Nat × List Nat) := (true, [([], []), ([0], [0]), ([1], [1]), ([], []), ([3], [3]), ([4], [4]), ([5], [5]), ([6], [6]), ([7], [7]), ([2, 8], [2, 8]), ([9, 2, 0, 1, 2, 3, 4, 5, 6, 7, 8, 9], [9])])
def spec_l6Dec.B7 : List Nat := [0, 1, 3, 0, 8, 24, 56, 120, 248, 511, 1023]
theorem spec_l6Dec.tab7 : rtab .any (opsOf Tryd.f71 7) = spec_l6Dec.T7 := by kernel_rfl
theorem spec_l6Dec.bits7 : waitsOk spec_l6Dec.T7.2 spec_l6Dec.B7 = true := by kernel_rfl
set_option maxHeartbeats 8000000 in
set_option maxRecDepth 100000 in
theorem spec_l6Dec.calls (k : Nat) : ∀ (a0 : Int) (r : ByteArray) (w : World) (h : spec_l6Dec.f k a0 = some r),
  Calls Tryd.prog 71 #[.int .i64 a0] w fun e w' => e = .returned (.string r) ∧ Below w.heap.size w w' := by
 induction k using Nat.strongRecOn with
 | _ k ih =>
 intro a0 r w h
 cases k with
 | zero => exact absurd h (by simp [spec_l6Dec.f])
 | succ k =>
 simp only [spec_l6Dec.f] at h
 have HB := Aside0.mk (Below.refl w.heap.size w)
 have H : (if a0 < (-9223372036854775807) then (some (⟨#[45, 57, 50, 50, 51, 51, 55, 50, 48, 51, 54, 56, 53, 52, 55, 55, 53, 56, 48, 56]⟩ : ByteArray)) else (if a0 < 0 then ((spec_l6Dec.f k (wrap64 (-a0))).bind fun t358 => (if 1 + t358.size ≤ 9223372036854775807 then (some ((⟨#[45]⟩ : ByteArray) ++ t358)) else (none))) else (if a0 < 10 then (some (strOfNums (([(wrap64 (48 + a0)) % 256] : List Int)))) else ((spec_l6Dec.f k (wrap64 (Int.tdiv a0 10))).bind fun t362 => ((some (([(wrap64 (48 + (Int.tmod a0 10))) % 256] : List Int) : List Int)).bind fun y363 => (if t362.size + (strOfNums y363).size ≤ 9223372036854775807 then (some (t362 ++ (strOfNums y363))) else (none))))))) = some r := h
 clear h
 by_cases c2 : a0 < (-9223372036854775807)
 ·rw [if_pos c2] at H
  have c2b0 : decide (a0 < (-9223372036854775807)) = true := decide_eq_true c2
  clear c2
  obtain rfl := Option.some.inj H
  go_enter Tryd.func71, Tryd.ntmps71
  go_wp2
  go_ret
  exact ⟨by first | rfl | (simp [*, errW_none, errW_some] <;> rfl), HB.out⟩
 ·rw [if_neg c2] at H
  have c2b0 : decide (a0 < (-9223372036854775807)) = false := decide_eq_false c2
  clear c2
  by_cases c3 : a0 < 0
  ·rw [if_pos c3] at H
   have c3b0 : decide (a0 < 0) = true := decide_eq_true c3
   clear c3
   replace H := Option.bind_eq_some_iff.mp H
   obtain ⟨t358, A40, H⟩ := H
   replace H : (if 1 + t358.size ≤ 9223372036854775807 then (some ((⟨#[45]⟩ : ByteArray) ++ t358)) else (none)) = some r := H
   have A4 := Aside0.mk A40
   clear A40
   by_cases c5 : 1 + t358.size ≤ 9223372036854775807
   ·rw [if_pos c5] at H
    have c5b0 := eq_true c5
    have c5b1 : decide (1 + t358.size ≤ 9223372036854775807) = true := decide_eq_true c5
    try have c5b2 : (9223372036854775807 < 1 + t358.size) = False := eq_false (Nat.not_lt.2 c5)
    obtain rfl := Option.some.inj H
    go_enter Tryd.func71, Tryd.ntmps71
    go_wp2_with (first | ((with_reducible refine gate_callee (f := 71) rfl ?_); refine goesL_ (some 9) rfl rfl Tryd.func71 (by kernel_rfl) rfl #[.int .i64 (wrap64 (-a0))] rfl (by (try simp only [List.map_toArray, List.map_cons, List.map_nil]); rfl) ?_; (with_reducible refine (ih k (by omega) (wrap64 (-a0)) t358 _ A4.out).mono ?_); rintro e w6 ⟨rfl, hb⟩; refine ⟨_, rfl, ?_⟩; replace HB := Aside0.mk (below_step HB.out hb); (try clear hb)))
    go_ret
    exact ⟨by first | rfl | (simp [*, errW_none, errW_some] <;> rfl), HB.out⟩
   ·rw [if_neg c5] at H
    exact absurd H (by simp)
  ·rw [if_neg c3] at H
   have c3b0 : decide (a0 < 0) = false := decide_eq_false c3
   clear c3
   by_cases c7 : a0 < 10
   ·rw [if_pos c7] at H
    have c7b0 : decide (a0 < 10) = true := decide_eq_true c7
    clear c7
    obtain ⟨y359, hy359⟩ : ∃ y_ : List Int, y_ = (([(wrap64 (48 + a0)) % 256] : List Int)) := ⟨_, rfl⟩
    replace H : (some (strOfNums y359)) = some r := by first | (rw [hy359]; with_reducible exact H)
    have Ny359 := Aside0.mk hy359
    clear hy359
    obtain rfl := Option.some.inj H
    go_enter Tryd.func71, Tryd.ntmps71
    go_wp2_with (first | ((with_reducible refine gate_dst (N := 16) rfl ?_); refine Kd.R_lit (Kd.int .u8) _ 5 ?hg (N := 16) ?hd (xs := ([(wrap64 (48 + a0)) % 256] : List Int)) (inner := [.int .u8 ((wrap64 (48 + a0)) % 256)]) (ok := fun _ => True) (okp := fun _ => True) ?hr ?hp (fun _ hk => hk) trivial (Below.refl _ _) (Nat.le_refl _) (by simp) ?_; (case hd => rfl); (case hg => rfl); (case hr => first | (go_simp; done)); (case hp => exact (Reps.one (show Kd.M (Kd.int .u8) _ _ _ ((wrap64 (48 + a0)) % 256) [.int .u8 ((wrap64 (48 + a0)) % 256)] from rfl) (Reps.none _ _))); intro v360 w8 ho9 hb hg_ hnew_; clear hg_ hnew_; (rw [← Ny359.out] at ho9); have HO361 := Aside0.mk (Kd.R_lower ho9 (below_size HB.out)); replace HB := Aside0.mk (below_step HB.out hb); clear hb ho9; have hcv10 := own_string (P := Tryd.prog) Tryd.underlying22 Tryd.underlying5 Tryd.underlying9 (Kd.own_of_R HO361.out)))
    go_ret
    exact ⟨by first | rfl | (simp [*, errW_none, errW_some] <;> rfl), HB.out⟩
   ·rw [if_neg c7] at H
    have c7b0 : decide (a0 < 10) = false := decide_eq_false c7
    clear c7
    replace H := Option.bind_eq_some_iff.mp H
    obtain ⟨t362, A110, H⟩ := H
    replace H : ((some (([(wrap64 (48 + (Int.tmod a0 10))) % 256] : List Int) : List Int)).bind fun y363 => (if t362.size + (strOfNums y363).size ≤ 9223372036854775807 then (some (t362 ++ (strOfNums y363))) else (none))) = some r := H
    have A11 := Aside0.mk A110
    clear A110
    obtain ⟨y363, hy363⟩ : ∃ y_ : List Int, y_ = (([(wrap64 (48 + (Int.tmod a0 10))) % 256] : List Int)) := ⟨_, rfl⟩
    replace H : (if t362.size + (strOfNums y363).size ≤ 9223372036854775807 then (some (t362 ++ (strOfNums y363))) else (none)) = some r := by first | (have H2_ := (Option.bind_some _ _).symm.trans H; rw [hy363]; with_reducible exact H2_)
    have Ny363 := Aside0.mk hy363
    clear hy363
    by_cases c12 : t362.size + (strOfNums y363).size ≤ 9223372036854775807
    ·rw [if_pos c12] at H
     have c12b0 := eq_true c12
     have c12b1 : decide (t362.size + (strOfNums y363).size ≤ 9223372036854775807) = true := decide_eq_true c12
     try have c12b2 : (9223372036854775807 < t362.size + (strOfNums y363).size) = False := eq_false (Nat.not_lt.2 c12)
     obtain rfl := Option.some.inj H
     go_enter Tryd.func71, Tryd.ntmps71
     try go_wp2
     replace HB := Aside0.mk (below_drew1 HB.out)
     refine start_ (n := 11) (S := fun w' => True) (ds := []) #[false, false, false, false, false, false, false, false, false, false, false] (by kernel_rfl) rfl rfl trivial (fun hHeld => ?_); refine with_tabW spec_l6Dec.tab7 spec_l6Dec.bits7 (fun HT_ HW_ => ?_)
     generalize w.drew = w13 at HB hHeld ⊢
     refine pure_ (i := 0) (N := some 18) (v := ?_) (a' := ?_) #[true, false, false, false, false, false, false, false, false, false, false] rfl rfl (any_of HT_.out (by kernel_rfl)) (fun _ _ _ h => h) (Or.inl ⟨by rfl, ?_⟩) ?_ ?_
     rotate_left
     ·intro w'
      go_simp
      with_reducible rfl
     rotate_left
     ·simp only [Act.put, List.setIfInBounds_toArray, List.set_cons_zero, List.set_cons_succ, i64_w, i32_w]
      rfl
     refine pure_ (i := 1) (N := some 19) (v := ?_) (a' := ?_) #[true, true, false, false, false, false, false, false, false, false, false] rfl rfl (any_of HT_.out (by kernel_rfl)) (fun _ _ _ h => h) (Or.inl ⟨by rfl, ?_⟩) ?_ ?_
     rotate_left
     ·intro w'
      go_simp
      with_reducible rfl
     rotate_left
     ·simp only [Act.put, List.setIfInBounds_toArray, List.set_cons_zero, List.set_cons_succ, i64_w, i32_w]
      rfl
     refine pure_ (i := 3) (N := some 21) (v := ?_) (a' := ?_) #[true, true, false, true, false, false, false, false, false, false, false] rfl rfl (any_of HT_.out (by kernel_rfl)) (fun _ _ _ h => h) (Or.inl ⟨by rfl, ?_⟩) ?_ ?_
     rotate_left
     ·intro w'
      go_simp
      with_reducible rfl
     rotate_left
     ·simp only [Act.put, List.setIfInBounds_toArray, List.set_cons_zero, List.set_cons_succ, i64_w, i32_w]
      rfl
     refine pure_ (i := 4) (N := some 22) (v := ?_) (a' := ?_) #[true, true, false, true, true, false, false, false, false, false, false] rfl rfl (any_of HT_.out (by kernel_rfl)) (fun _ _ _ h => h) (Or.inl ⟨by rfl, ?_⟩) ?_ ?_
     rotate_left
     ·intro w'
      go_simp
      with_reducible rfl
     rotate_left
     ·simp only [Act.put, List.setIfInBounds_toArray, List.set_cons_zero, List.set_cons_succ, i64_w, i32_w]
      rfl
     refine pure_ (i := 5) (N := some 23) (v := ?_) (a' := ?_) #[true, true, false, true, true, true, false, false, false, false, false] rfl rfl (any_of HT_.out (by kernel_rfl)) (fun _ _ _ h => h) (Or.inl ⟨by rfl, ?_⟩) ?_ ?_
     rotate_left
     ·intro w'
      go_simp
      with_reducible rfl
     rotate_left
     ·simp only [Act.put, List.setIfInBounds_toArray, List.set_cons_zero, List.set_cons_succ, i64_w, i32_w]
      rfl
     refine pure_ (i := 6) (N := some 24) (v := ?_) (a' := ?_) #[true, true, false, true, true, true, true, false, false, false, false] rfl rfl (any_of HT_.out (by kernel_rfl)) (fun _ _ _ h => h) (Or.inl ⟨by rfl, ?_⟩) ?_ ?_
     rotate_left
     ·intro w'
      go_simp
      with_reducible rfl
     rotate_left
     ·simp only [Act.put, List.setIfInBounds_toArray, List.set_cons_zero, List.set_cons_succ, i64_w, i32_w]
      rfl
     refine join_ (σ := Value) 2 #[true, true, true, true, true, true, true, true, true, false, false] (fun s_ => [(20, .string t362), (25, s_), (26, .string (strOfNums y363))]) (fun s_ w' => (Kd.R (Kd.int .u8) 5 w' w.heap.size (fun _ => True) s_ y363) ∧ (Below w.heap.size w w')) ?_ ?_
     rotate_left
     ·intro hCont
      refine two_ (i := 2) (j := 7) (Ni := some 20) (Nj := some 25) #[true, true, true, true, true, true, true, false, false, false, false] #[true, true, false, true, true, true, true, true, false, false, false] rfl rfl rfl rfl (two_of HT_.out (by kernel_rfl)) (by decide) (by decide) (fun K hK => ?_) (fun K hK => ?_)
      ·skip
       refine goes_ Tryd.func71 (by kernel_rfl) rfl #[.int .i64 (wrap64 (Int.tdiv a0 10))] (by rfl) rfl rfl (by (try simp only [List.map_toArray, List.map_cons, List.map_nil]); rfl) ?_
       with_reducible refine (ih k (by omega) (wrap64 (Int.tdiv a0 10)) t362 _ A11.out).mono ?_
       rintro e w14 ⟨rfl, hb⟩
       refine ⟨_, rfl, ?_⟩
       replace HB := Aside0.mk (below_step HB.out hb)
       (try clear hb)
       refine hK.out _ _ trivial (fun hHeld => ?_)
       clear hK K
       refine norm_ (a' := ?_) ?_ ?_
       rotate_left
       ·show Act.put _ (some 20) _ = _
        simp only [Act.put, List.setIfInBounds_toArray, List.set_cons_zero, List.set_cons_succ, i64_w, i32_w]
        rfl
       refine one_ (i := 7) (N := some 25) #[true, true, true, true, true, true, true, true, false, false, false] rfl rfl (one_of HT_.out (by kernel_rfl)) (by decide) (fun K hK => ?_)
       refine Kd.R_lit_step (Kd.int .u8) _ 5 ?hg (N := 25) ?hd (xs := ([(wrap64 (48 + (Int.tmod a0 10))) % 256] : List Int)) (inner := [.int .u8 ((wrap64 (48 + (Int.tmod a0 10))) % 256)]) (ok := fun _ => True) (okp := fun _ => True) ?hr ?hp (fun _ hk => hk) trivial (Below.refl _ _) (Nat.le_refl _) (by simp) ?_; (case hd => rfl); (case hg => rfl); (case hr => first | (go_simp; rfl)); (case hp => exact (Reps.one (show Kd.M (Kd.int .u8) _ _ _ ((wrap64 (48 + (Int.tmod a0 10))) % 256) [.int .u8 ((wrap64 (48 + (Int.tmod a0 10))) % 256)] from rfl) (Reps.none _ _)))
       intro v364 w15 ho16 hb hg_ hnew_
       clear hg_ hnew_
       (rw [← Ny363.out] at ho16)
       have HO365 := Aside0.mk (Kd.R_lower ho16 (below_size HB.out))
       replace HB := Aside0.mk (below_step HB.out hb)
       clear hb ho16
       refine hK.out _ _ trivial (fun hHeld => ?_)
       clear hK K
       refine norm_ (a' := ?_) ?_ ?_
       rotate_left
       ·show Act.put _ (some 25) _ = _
        simp only [Act.put, List.setIfInBounds_toArray, List.set_cons_zero, List.set_cons_succ, i64_w, i32_w]
        rfl
       refine one_ (i := 8) (N := some 26) #[true, true, true, true, true, true, true, true, true, false, false] rfl rfl (one_of HT_.out (by kernel_rfl)) (by decide) (fun K hK => ?_)
       have hcv17 := own_string (P := Tryd.prog) Tryd.underlying22 Tryd.underlying5 Tryd.underlying9 (Kd.own_of_R HO365.out)
       refine value_ (w1 := ?_) (v := ?_) (by rfl) rfl ?_ ?_
       rotate_left 2
       ·go_simp
        constructor
        ·rfl
        ·rfl
       clear hcv17
       refine hK.out _ _ trivial (fun hHeld => ?_)
       clear hK K
       refine norm_ (a' := ?_) ?_ ?_
       rotate_left
       ·show Act.put _ (some 26) _ = _
        simp only [Act.put, List.setIfInBounds_toArray, List.set_cons_zero, List.set_cons_succ, i64_w, i32_w]
        rfl
       exact norm_ (by simp only [putAll, Act.put, List.setIfInBounds_toArray, List.set_cons_zero, List.set_cons_succ]) (hCont (v364) _ ⟨HO365.out, HB.out⟩)
      ·skip
       refine Kd.R_lit_step (Kd.int .u8) _ 5 ?hg (N := 25) ?hd (xs := ([(wrap64 (48 + (Int.tmod a0 10))) % 256] : List Int)) (inner := [.int .u8 ((wrap64 (48 + (Int.tmod a0 10))) % 256)]) (ok := fun _ => True) (okp := fun _ => True) ?hr ?hp (fun _ hk => hk) trivial (Below.refl _ _) (Nat.le_refl _) (by simp) ?_; (case hd => rfl); (case hg => rfl); (case hr => first | (go_simp; rfl)); (case hp => exact (Reps.one (show Kd.M (Kd.int .u8) _ _ _ ((wrap64 (48 + (Int.tmod a0 10))) % 256) [.int .u8 ((wrap64 (48 + (Int.tmod a0 10))) % 256)] from rfl) (Reps.none _ _)))
       intro v364 w14 ho15 hb hg_ hnew_
       clear hg_ hnew_
       (rw [← Ny363.out] at ho15)
       have HO365 := Aside0.mk (Kd.R_lower ho15 (below_size HB.out))
       replace HB := Aside0.mk (below_step HB.out hb)
       clear hb ho15
       refine hK.out _ _ trivial (fun hHeld => ?_)
       clear hK K
       refine norm_ (a' := ?_) ?_ ?_
       rotate_left
       ·show Act.put _ (some 25) _ = _
        simp only [Act.put, List.setIfInBounds_toArray, List.set_cons_zero, List.set_cons_succ, i64_w, i32_w]
        rfl
       refine two_ (i := 2) (j := 8) (Ni := some 20) (Nj := some 26) #[true, true, true, true, true, true, true, true, false, false, false] #[true, true, false, true, true, true, true, true, true, false, false] rfl rfl rfl rfl (two_of HT_.out (by kernel_rfl)) (by decide) (by decide) (fun K hK => ?_) (fun K hK => ?_)
       ·skip
        refine goes_ Tryd.func71 (by kernel_rfl) rfl #[.int .i64 (wrap64 (Int.tdiv a0 10))] (by rfl) rfl rfl (by (try simp only [List.map_toArray, List.map_cons, List.map_nil]); rfl) ?_
        with_reducible refine (ih k (by omega) (wrap64 (Int.tdiv a0 10)) t362 _ A11.out).mono ?_
        rintro e w16 ⟨rfl, hb⟩
        refine ⟨_, rfl, ?_⟩
        replace HO365 := Aside0.mk (Kd.R_below HO365.out hb)
        replace HB := Aside0.mk (below_step HB.out hb)
        (try clear hb)
        refine hK.out _ _ trivial (fun hHeld => ?_)
        clear hK K
        refine norm_ (a' := ?_) ?_ ?_
        rotate_left
        ·show Act.put _ (some 20) _ = _
         simp only [Act.put, List.setIfInBounds_toArray, List.set_cons_zero, List.set_cons_succ, i64_w, i32_w]
         rfl
        refine one_ (i := 8) (N := some 26) #[true, true, true, true, true, true, true, true, true, false, false] rfl rfl (one_of HT_.out (by kernel_rfl)) (by decide) (fun K hK => ?_)
        have hcv17 := own_string (P := Tryd.prog) Tryd.underlying22 Tryd.underlying5 Tryd.underlying9 (Kd.own_of_R HO365.out)
        refine value_ (w1 := ?_) (v := ?_) (by rfl) rfl ?_ ?_
        rotate_left 2
        ·go_simp
         constructor
         ·rfl
         ·rfl
        clear hcv17
        refine hK.out _ _ trivial (fun hHeld => ?_)
        clear hK K
        refine norm_ (a' := ?_) ?_ ?_
        rotate_left
        ·show Act.put _ (some 26) _ = _
         simp only [Act.put, List.setIfInBounds_toArray, List.set_cons_zero, List.set_cons_succ, i64_w, i32_w]
         rfl
        exact norm_ (by simp only [putAll, Act.put, List.setIfInBounds_toArray, List.set_cons_zero, List.set_cons_succ]) (hCont (v364) _ ⟨HO365.out, HB.out⟩)
       ·skip
        have hcv16 := own_string (P := Tryd.prog) Tryd.underlying22 Tryd.underlying5 Tryd.underlying9 (Kd.own_of_R HO365.out)
        refine value_ (w1 := ?_) (v := ?_) (by rfl) rfl ?_ ?_
        rotate_left 2
        ·go_simp
         constructor
         ·rfl
         ·rfl
        clear hcv16
        refine hK.out _ _ trivial (fun hHeld => ?_)
        clear hK K
        refine norm_ (a' := ?_) ?_ ?_
        rotate_left
        ·show Act.put _ (some 26) _ = _
         simp only [Act.put, List.setIfInBounds_toArray, List.set_cons_zero, List.set_cons_succ, i64_w, i32_w]
         rfl
        refine one_ (i := 2) (N := some 20) #[true, true, true, true, true, true, true, true, true, false, false] rfl rfl (one_of HT_.out (by kernel_rfl)) (by decide) (fun K hK => ?_)
        refine goes_ Tryd.func71 (by kernel_rfl) rfl #[.int .i64 (wrap64 (Int.tdiv a0 10))] (by rfl) rfl rfl (by (try simp only [List.map_toArray, List.map_cons, List.map_nil]); rfl) ?_
        with_reducible refine (ih k (by omega) (wrap64 (Int.tdiv a0 10)) t362 _ A11.out).mono ?_
        rintro e w17 ⟨rfl, hb⟩
        refine ⟨_, rfl, ?_⟩
        replace HO365 := Aside0.mk (Kd.R_below HO365.out hb)
        replace HB := Aside0.mk (below_step HB.out hb)
        (try clear hb)
        refine hK.out _ _ trivial (fun hHeld => ?_)
        clear hK K
        refine norm_ (a' := ?_) ?_ ?_
        rotate_left
        ·show Act.put _ (some 20) _ = _
         simp only [Act.put, List.setIfInBounds_toArray, List.set_cons_zero, List.set_cons_succ, i64_w, i32_w]
         rfl
        exact norm_ (by simp only [putAll, Act.put, List.setIfInBounds_toArray, List.set_cons_zero, List.set_cons_succ]) (hCont (v364) _ ⟨HO365.out, HB.out⟩)
     rintro v364 w18 ⟨h0_, h1_⟩
     have n0_ : Aside0 (Kd.R (Kd.int .u8) 5 w18 w.heap.size (fun _ => True) v364 y363) := ⟨h0_⟩
     have n1_ : Aside0 (Below w.heap.size w w18) := ⟨h1_⟩
     clear HB
     clear h0_ h1_
     have HO365 := n0_
     have HB := n1_
     clear n0_ n1_
     have hHeld := trivial
     refine norm_ (a' := ?_) ?_ ?_
     rotate_left
     ·simp only [putAll, Act.put, List.setIfInBounds_toArray, List.set_cons_zero, List.set_cons_succ]
      rfl
     refine pure_ (i := 9) (N := some 27) (v := ?_) (a' := ?_) #[true, true, true, true, true, true, true, true, true, true, false] rfl rfl (any_of HT_.out (by kernel_rfl)) (fun _ _ _ h => h) (Or.inl ⟨by rfl, ?_⟩) ?_ ?_
     rotate_left
     ·intro w'
      go_simp
      with_reducible rfl
     rotate_left
     ·simp only [Act.put, List.setIfInBounds_toArray, List.set_cons_zero, List.set_cons_succ, i64_w, i32_w]
      rfl
     refine pure_ (i := 10) (N := some 2) (v := ?_) (a' := ?_) #[true, true, true, true, true, true, true, true, true, true, true] rfl rfl (any_of HT_.out (by kernel_rfl)) (fun _ _ _ h => h) (Or.inl ⟨by rfl, ?_⟩) ?_ ?_
     rotate_left
     ·intro w'
      go_simp
      with_reducible rfl
     rotate_left
     ·simp only [Act.put, List.setIfInBounds_toArray, List.set_cons_zero, List.set_cons_succ, i64_w, i32_w]
      rfl
     refine done_ (done_of HT_.out (by kernel_rfl)) ?_
     try go_wp2
     go_ret
     exact ⟨by first | rfl | (simp [*, errW_none, errW_some] <;> rfl), HB.out⟩
    ·rw [if_neg c12] at H
     exact absurd H (by simp)


def spec_l91Proof.f (k : Nat) (s0_0 : List Int) (s0_1 : Int) : Option (ByteArray × Int) := (spec_l6Rd_pick.f k s0_0 s0_1 30).bind fun bt431 => ((spec_l6Dec.f k bt431.1).bind fun t433 => (if 6 + t433.size ≤ 9223372036854775807 then (if 7 + t433.size ≤ 9223372036854775807 then (if 4 + t433.size ≤ 9223372036854775807 then (if 4 + t433.size + 1 ≤ 9223372036854775807 then (if 4 + t433.size + 1 + t433.size ≤ 9223372036854775807 then (if 5 + t433.size ≤ 9223372036854775807 then ((some (([(⟨#[102, 105, 114, 115, 116, 32]⟩ : ByteArray) ++ t433, (⟨#[115, 101, 99, 111, 110, 100, 32]⟩ : ByteArray) ++ t433, (⟨#[115, 117, 109, 32]⟩ : ByteArray) ++ t433, (((⟨#[115, 117, 109, 32]⟩ : ByteArray) ++ t433) ++ (⟨#[32]⟩ : ByteArray)) ++ t433, (⟨#[115, 117, 109]⟩ : ByteArray), (⟨#[114, 101, 115, 116, 32]⟩ : ByteArray) ++ t433, (⟨#[114, 101, 115, 116, 32, 50]⟩ : ByteArray), (⟨#[102, 105, 114, 115, 116]⟩ : ByteArray), (⟨#[115, 117, 109, 32, 48]⟩ : ByteArray) ++ t433, (⟨#[114, 101, 115, 116, 32, 32, 50]⟩ : ByteArray), (⟨#[102, 105, 114, 115, 116, 32, 45, 49]⟩ : ByteArray)] : List ByteArray) : List ByteArray)).bind fun y434 => ((spec_l6Rd_pick.f k s0_0 bt431.2 11).bind fun bt437 => (if 0 ≤ bt437.1 then (if bt437.1 < (y434.length : Int) then (some (rdOf ByteArray.empty y434 bt437.1, bt437.2)) else (none)) else (none)))) else (none)) else (none)) else (none)) else (none)) else (none)) else (none)))
theorem spec_l91Proof.mono : ∀ a0 a1 k, LeO (spec_l91Proof.f k a0 a1) (spec_l91Proof.f (k + 1) a0 a1) := by
 intro a0 a1 k
 unfold spec_l91Proof.f
 repeat' first | (with_reducible exact spec_l6Dec.mono _ _) | (with_reducible exact spec_l6Rd_pick.mono _ _ _ _) | (with_reducible exact LeO.refl _) | (with_reducible refine LeO.ite ?_ ?_) | (with_reducible refine LeO.bind ?_ (fun _ => ?_))
set_option maxHeartbeats 8000000 in
set_option maxRecDepth 100000 in
theorem spec_l91Proof.calls (k : Nat) (g : Nat) (s0_0 : List Int) (s0_1 : Int) (r1 : ByteArray) (r2 : Int) (w0 w : World) (hI : IsS74 w0 w g s0_0 s0_1) (hB : Below w0.heap.size w0 w) (h : spec_l91Proof.f k s0_0 s0_1 = some (r1, r2)) :
  Calls Tryd.prog 53 #[.pointer (some ⟨g, 0, none⟩)] w fun e w' => e = .returned (.string r1) ∧ IsS74 w0 w' g s0_0 r2 ∧ Below w0.heap.size w0 w' ∧ KeepBut w w' g none := by
 have HI0 := Aside0.mk hI
 have HK := Aside0.mk (KeepBut.refl w g none)
 have HL := Aside0.mk hB.size
 clear hI
 have HW0 := Aside0.mk hB.size
 have HB := Aside0.mk hB
 clear hB
 have H : ((spec_l6Rd_pick.f k s0_0 s0_1 30).bind fun bt431 => ((spec_l6Dec.f k bt431.1).bind fun t433 => (if 6 + t433.size ≤ 9223372036854775807 then (if 7 + t433.size ≤ 9223372036854775807 then (if 4 + t433.size ≤ 9223372036854775807 then (if 4 + t433.size + 1 ≤ 9223372036854775807 then (if 4 + t433.size + 1 + t433.size ≤ 9223372036854775807 then (if 5 + t433.size ≤ 9223372036854775807 then ((some (([(⟨#[102, 105, 114, 115, 116, 32]⟩ : ByteArray) ++ t433, (⟨#[115, 101, 99, 111, 110, 100, 32]⟩ : ByteArray) ++ t433, (⟨#[115, 117, 109, 32]⟩ : ByteArray) ++ t433, (((⟨#[115, 117, 109, 32]⟩ : ByteArray) ++ t433) ++ (⟨#[32]⟩ : ByteArray)) ++ t433, (⟨#[115, 117, 109]⟩ : ByteArray), (⟨#[114, 101, 115, 116, 32]⟩ : ByteArray) ++ t433, (⟨#[114, 101, 115, 116, 32, 50]⟩ : ByteArray), (⟨#[102, 105, 114, 115, 116]⟩ : ByteArray), (⟨#[115, 117, 109, 32, 48]⟩ : ByteArray) ++ t433, (⟨#[114, 101, 115, 116, 32, 32, 50]⟩ : ByteArray), (⟨#[102, 105, 114, 115, 116, 32, 45, 49]⟩ : ByteArray)] : List ByteArray) : List ByteArray)).bind fun y434 => ((spec_l6Rd_pick.f k s0_0 bt431.2 11).bind fun bt437 => (if 0 ≤ bt437.1 then (if bt437.1 < (y434.length : Int) then (some (rdOf ByteArray.empty y434 bt437.1, bt437.2)) else (none)) else (none)))) else (none)) else (none)) else (none)) else (none)) else (none)) else (none)))) = some (r1, r2) := h
 clear h
 replace H := Option.bind_eq_some_iff.mp H
 obtain ⟨⟨t431, t432⟩, A20, H⟩ := H
 replace H : ((spec_l6Dec.f k t431).bind fun t433 => (if 6 + t433.size ≤ 9223372036854775807 then (if 7 + t433.size ≤ 9223372036854775807 then (if 4 + t433.size ≤ 9223372036854775807 then (if 4 + t433.size + 1 ≤ 9223372036854775807 then (if 4 + t433.size + 1 + t433.size ≤ 9223372036854775807 then (if 5 + t433.size ≤ 9223372036854775807 then ((some (([(⟨#[102, 105, 114, 115, 116, 32]⟩ : ByteArray) ++ t433, (⟨#[115, 101, 99, 111, 110, 100, 32]⟩ : ByteArray) ++ t433, (⟨#[115, 117, 109, 32]⟩ : ByteArray) ++ t433, (((⟨#[115, 117, 109, 32]⟩ : ByteArray) ++ t433) ++ (⟨#[32]⟩ : ByteArray)) ++ t433, (⟨#[115, 117, 109]⟩ : ByteArray), (⟨#[114, 101, 115, 116, 32]⟩ : ByteArray) ++ t433, (⟨#[114, 101, 115, 116, 32, 50]⟩ : ByteArray), (⟨#[102, 105, 114, 115, 116]⟩ : ByteArray), (⟨#[115, 117, 109, 32, 48]⟩ : ByteArray) ++ t433, (⟨#[114, 101, 115, 116, 32, 32, 50]⟩ : ByteArray), (⟨#[102, 105, 114, 115, 116, 32, 45, 49]⟩ : ByteArray)] : List ByteArray) : List ByteArray)).bind fun y434 => ((spec_l6Rd_pick.f k s0_0 t432 11).bind fun bt437 => (if 0 ≤ bt437.1 then (if bt437.1 < (y434.length : Int) then (some (rdOf ByteArray.empty y434 bt437.1, bt437.2)) else (none)) else (none)))) else (none)) else (none)) else (none)) else (none)) else (none)) else (none))) = some (r1, r2) := H
 have A2 := Aside0.mk A20
 clear A20
 replace H := Option.bind_eq_some_iff.mp H
 obtain ⟨t433, A30, H⟩ := H
 replace H : (if 6 + t433.size ≤ 9223372036854775807 then (if 7 + t433.size ≤ 9223372036854775807 then (if 4 + t433.size ≤ 9223372036854775807 then (if 4 + t433.size + 1 ≤ 9223372036854775807 then (if 4 + t433.size + 1 + t433.size ≤ 9223372036854775807 then (if 5 + t433.size ≤ 9223372036854775807 then ((some (([(⟨#[102, 105, 114, 115, 116, 32]⟩ : ByteArray) ++ t433, (⟨#[115, 101, 99, 111, 110, 100, 32]⟩ : ByteArray) ++ t433, (⟨#[115, 117, 109, 32]⟩ : ByteArray) ++ t433, (((⟨#[115, 117, 109, 32]⟩ : ByteArray) ++ t433) ++ (⟨#[32]⟩ : ByteArray)) ++ t433, (⟨#[115, 117, 109]⟩ : ByteArray), (⟨#[114, 101, 115, 116, 32]⟩ : ByteArray) ++ t433, (⟨#[114, 101, 115, 116, 32, 50]⟩ : ByteArray), (⟨#[102, 105, 114, 115, 116]⟩ : ByteArray), (⟨#[115, 117, 109, 32, 48]⟩ : ByteArray) ++ t433, (⟨#[114, 101, 115, 116, 32, 32, 50]⟩ : ByteArray), (⟨#[102, 105, 114, 115, 116, 32, 45, 49]⟩ : ByteArray)] : List ByteArray) : List ByteArray)).bind fun y434 => ((spec_l6Rd_pick.f k s0_0 t432 11).bind fun bt437 => (if 0 ≤ bt437.1 then (if bt437.1 < (y434.length : Int) then (some (rdOf ByteArray.empty y434 bt437.1, bt437.2)) else (none)) else (none)))) else (none)) else (none)) else (none)) else (none)) else (none)) else (none)) = some (r1, r2) := H
 have A3 := Aside0.mk A30
 clear A30
 by_cases c4 : 6 + t433.size ≤ 9223372036854775807
 ·rw [if_pos c4] at H
  have c4b0 := eq_true c4
  have c4b1 : decide (6 + t433.size ≤ 9223372036854775807) = true := decide_eq_true c4
  try have c4b2 : (9223372036854775807 < 6 + t433.size) = False := eq_false (Nat.not_lt.2 c4)
  by_cases c5 : 7 + t433.size ≤ 9223372036854775807
  ·rw [if_pos c5] at H
   have c5b0 := eq_true c5
   have c5b1 : decide (7 + t433.size ≤ 9223372036854775807) = true := decide_eq_true c5
   try have c5b2 : (9223372036854775807 < 7 + t433.size) = False := eq_false (Nat.not_lt.2 c5)
   by_cases c6 : 4 + t433.size ≤ 9223372036854775807
   ·rw [if_pos c6] at H
    have c6b0 := eq_true c6
    have c6b1 : decide (4 + t433.size ≤ 9223372036854775807) = true := decide_eq_true c6
    try have c6b2 : (9223372036854775807 < 4 + t433.size) = False := eq_false (Nat.not_lt.2 c6)
    by_cases c7 : 4 + t433.size + 1 ≤ 9223372036854775807
    ·rw [if_pos c7] at H
     have c7b0 := eq_true c7
     have c7b1 : decide (4 + t433.size + 1 ≤ 9223372036854775807) = true := decide_eq_true c7
     try have c7b2 : (9223372036854775807 < 4 + t433.size + 1) = False := eq_false (Nat.not_lt.2 c7)
     by_cases c8 : 4 + t433.size + 1 + t433.size ≤ 9223372036854775807
     ·rw [if_pos c8] at H
      have c8b0 := eq_true c8
      have c8b1 : decide (4 + t433.size + 1 + t433.size ≤ 9223372036854775807) = true := decide_eq_true c8
      try have c8b2 : (9223372036854775807 < 4 + t433.size + 1 + t433.size) = False := eq_false (Nat.not_lt.2 c8)
      by_cases c9 : 5 + t433.size ≤ 9223372036854775807
      ·rw [if_pos c9] at H
       have c9b0 := eq_true c9
       have c9b1 : decide (5 + t433.size ≤ 9223372036854775807) = true := decide_eq_true c9
       try have c9b2 : (9223372036854775807 < 5 + t433.size) = False := eq_false (Nat.not_lt.2 c9)
       obtain ⟨y434, hy434⟩ : ∃ y_ : List ByteArray, y_ = (([(⟨#[102, 105, 114, 115, 116, 32]⟩ : ByteArray) ++ t433, (⟨#[115, 101, 99, 111, 110, 100, 32]⟩ : ByteArray) ++ t433, (⟨#[115, 117, 109, 32]⟩ : ByteArray) ++ t433, (((⟨#[115, 117, 109, 32]⟩ : ByteArray) ++ t433) ++ (⟨#[32]⟩ : ByteArray)) ++ t433, (⟨#[115, 117, 109]⟩ : ByteArray), (⟨#[114, 101, 115, 116, 32]⟩ : ByteArray) ++ t433, (⟨#[114, 101, 115, 116, 32, 50]⟩ : ByteArray), (⟨#[102, 105, 114, 115, 116]⟩ : ByteArray), (⟨#[115, 117, 109, 32, 48]⟩ : ByteArray) ++ t433, (⟨#[114, 101, 115, 116, 32, 32, 50]⟩ : ByteArray), (⟨#[102, 105, 114, 115, 116, 32, 45, 49]⟩ : ByteArray)] : List ByteArray)) := ⟨_, rfl⟩
       replace H : ((spec_l6Rd_pick.f k s0_0 t432 11).bind fun bt437 => (if 0 ≤ bt437.1 then (if bt437.1 < (y434.length : Int) then (some (rdOf ByteArray.empty y434 bt437.1, bt437.2)) else (none)) else (none))) = some (r1, r2) := by first | (have H2_ := (Option.bind_some _ _).symm.trans H; rw [hy434]; with_reducible exact H2_)
       have Ny434 := Aside0.mk hy434
       clear hy434
       replace H := Option.bind_eq_some_iff.mp H
       obtain ⟨⟨t437, t438⟩, A100, H⟩ := H
       replace H : (if 0 ≤ t437 then (if t437 < (y434.length : Int) then (some (rdOf ByteArray.empty y434 t437, t438)) else (none)) else (none)) = some (r1, r2) := H
       have A10 := Aside0.mk A100
       clear A100
       by_cases c11 : 0 ≤ t437
       ·rw [if_pos c11] at H
        have c11b0 : decide (0 ≤ t437) = true := decide_eq_true c11
        clear c11
        by_cases c12 : t437 < (y434.length : Int)
        ·rw [if_pos c12] at H
         have c12b0 : decide (t437 < (y434.length : Int)) = true := decide_eq_true c12
         clear c12
         simp only [Option.some.injEq, Prod.mk.injEq] at H
         obtain ⟨rfl, rfl⟩ := H
         go_enter Tryd.func53, Tryd.ntmps53
         go_wp2_with (first | ((with_reducible refine gate_callee (f := 39) rfl ?_); refine goesL_ (some 5) rfl rfl Tryd.func39 (by kernel_rfl) rfl #[.pointer (some ⟨g, 0, none⟩), .int .i64 30] rfl (by (try simp only [List.map_toArray, List.map_cons, List.map_nil]); rfl) ?_; (with_reducible refine (spec_l6Rd_pick.calls k g s0_0 s0_1 30 t431 t432 w0 _ ?side1 ?side2 A2.out).mono ?_); (case side1 => repeat ((with_reducible exact HI0.out))); (case side2 => repeat ((with_reducible exact HB.out))); rintro e w13 ⟨rfl, hi, hb, hk⟩; refine ⟨_, rfl, ?_⟩; replace HK := Aside0.mk (KeepBut.trans HK.out hk (.inl rfl)); replace HB := Aside0.mk hb; replace HI0 := Aside0.mk hi; (try clear hb); (try clear hk); (try clear hi)) | ((with_reducible refine gate_callee (f := 71) rfl ?_); refine goesL_ (some 6) rfl rfl Tryd.func71 (by kernel_rfl) rfl #[.int .i64 t431] rfl (by (try simp only [List.map_toArray, List.map_cons, List.map_nil]); rfl) ?_; (with_reducible refine (spec_l6Dec.calls k t431 t433 _ A3.out).mono ?_); rintro e w14 ⟨rfl, hb⟩; refine ⟨_, rfl, ?_⟩; replace HI0 := Aside0.mk (IsS74.below HI0.out hb); replace HK := Aside0.mk (KeepBut.trans HK.out (KeepBut.of_below hb g none) (.inl rfl)); replace HB := Aside0.mk (below_step HB.out hb); (try clear hb)) | ((with_reducible refine gate_dst (N := 22) rfl ?_); refine Kd.R_lit Kd.string _ 9 ?hg (N := 22) ?hd (xs := ([(⟨#[102, 105, 114, 115, 116, 32]⟩ : ByteArray) ++ t433, (⟨#[115, 101, 99, 111, 110, 100, 32]⟩ : ByteArray) ++ t433, (⟨#[115, 117, 109, 32]⟩ : ByteArray) ++ t433, (((⟨#[115, 117, 109, 32]⟩ : ByteArray) ++ t433) ++ (⟨#[32]⟩ : ByteArray)) ++ t433, (⟨#[115, 117, 109]⟩ : ByteArray), (⟨#[114, 101, 115, 116, 32]⟩ : ByteArray) ++ t433, (⟨#[114, 101, 115, 116, 32, 50]⟩ : ByteArray), (⟨#[102, 105, 114, 115, 116]⟩ : ByteArray), (⟨#[115, 117, 109, 32, 48]⟩ : ByteArray) ++ t433, (⟨#[114, 101, 115, 116, 32, 32, 50]⟩ : ByteArray), (⟨#[102, 105, 114, 115, 116, 32, 45, 49]⟩ : ByteArray)] : List ByteArray)) (inner := [.string ((⟨#[102, 105, 114, 115, 116, 32]⟩ : ByteArray) ++ t433), .string ((⟨#[115, 101, 99, 111, 110, 100, 32]⟩ : ByteArray) ++ t433), .string ((⟨#[115, 117, 109, 32]⟩ : ByteArray) ++ t433), .string ((((⟨#[115, 117, 109, 32]⟩ : ByteArray) ++ t433) ++ (⟨#[32]⟩ : ByteArray)) ++ t433), .string (⟨#[115, 117, 109]⟩ : ByteArray), .string ((⟨#[114, 101, 115, 116, 32]⟩ : ByteArray) ++ t433), .string (⟨#[114, 101, 115, 116, 32, 50]⟩ : ByteArray), .string (⟨#[102, 105, 114, 115, 116]⟩ : ByteArray), .string ((⟨#[115, 117, 109, 32, 48]⟩ : ByteArray) ++ t433), .string (⟨#[114, 101, 115, 116, 32, 32, 50]⟩ : ByteArray), .string (⟨#[102, 105, 114, 115, 116, 32, 45, 49]⟩ : ByteArray)]) (ok := fun _ => True) (okp := fun _ => True) ?hr ?hp (fun _ hk => hk) trivial (Below.refl _ _) (Nat.le_refl _) (by simp) ?_; (case hd => rfl); (case hg => rfl); (case hr => first | (go_simp; done)); (case hp => exact (Reps.one (show Kd.M Kd.string _ _ _ ((⟨#[102, 105, 114, 115, 116, 32]⟩ : ByteArray) ++ t433) [.string ((⟨#[102, 105, 114, 115, 116, 32]⟩ : ByteArray) ++ t433)] from rfl) (Reps.one (show Kd.M Kd.string _ _ _ ((⟨#[115, 101, 99, 111, 110, 100, 32]⟩ : ByteArray) ++ t433) [.string ((⟨#[115, 101, 99, 111, 110, 100, 32]⟩ : ByteArray) ++ t433)] from rfl) (Reps.one (show Kd.M Kd.string _ _ _ ((⟨#[115, 117, 109, 32]⟩ : ByteArray) ++ t433) [.string ((⟨#[115, 117, 109, 32]⟩ : ByteArray) ++ t433)] from rfl) (Reps.one (show Kd.M Kd.string _ _ _ ((((⟨#[115, 117, 109, 32]⟩ : ByteArray) ++ t433) ++ (⟨#[32]⟩ : ByteArray)) ++ t433) [.string ((((⟨#[115, 117, 109, 32]⟩ : ByteArray) ++ t433) ++ (⟨#[32]⟩ : ByteArray)) ++ t433)] from rfl) (Reps.one (show Kd.M Kd.string _ _ _ (⟨#[115, 117, 109]⟩ : ByteArray) [.string (⟨#[115, 117, 109]⟩ : ByteArray)] from rfl) (Reps.one (show Kd.M Kd.string _ _ _ ((⟨#[114, 101, 115, 116, 32]⟩ : ByteArray) ++ t433) [.string ((⟨#[114, 101, 115, 116, 32]⟩ : ByteArray) ++ t433)] from rfl) (Reps.one (show Kd.M Kd.string _ _ _ (⟨#[114, 101, 115, 116, 32, 50]⟩ : ByteArray) [.string (⟨#[114, 101, 115, 116, 32, 50]⟩ : ByteArray)] from rfl) (Reps.one (show Kd.M Kd.string _ _ _ (⟨#[102, 105, 114, 115, 116]⟩ : ByteArray) [.string (⟨#[102, 105, 114, 115, 116]⟩ : ByteArray)] from rfl) (Reps.one (show Kd.M Kd.string _ _ _ ((⟨#[115, 117, 109, 32, 48]⟩ : ByteArray) ++ t433) [.string ((⟨#[115, 117, 109, 32, 48]⟩ : ByteArray) ++ t433)] from rfl) (Reps.one (show Kd.M Kd.string _ _ _ (⟨#[114, 101, 115, 116, 32, 32, 50]⟩ : ByteArray) [.string (⟨#[114, 101, 115, 116, 32, 32, 50]⟩ : ByteArray)] from rfl) (Reps.one (show Kd.M Kd.string _ _ _ (⟨#[102, 105, 114, 115, 116, 32, 45, 49]⟩ : ByteArray) [.string (⟨#[102, 105, 114, 115, 116, 32, 45, 49]⟩ : ByteArray)] from rfl) (Reps.none _ _))))))))))))); intro v435 w15 ho16 hb hg_ hnew_; clear hg_ hnew_; (rw [← Ny434.out] at ho16); have HO436 := Aside0.mk (Kd.R_lower ho16 (keep_size (w := w) (g := g) (row := none) HK.out)); replace HI0 := Aside0.mk (IsS74.below HI0.out hb); replace HK := Aside0.mk (KeepBut.trans HK.out (KeepBut.of_below hb g none) (.inl rfl)); replace HB := Aside0.mk (below_step HB.out hb); clear hb ho16) | ((with_reducible refine gate_callee (f := 39) rfl ?_); refine goesL_ (some 24) rfl rfl Tryd.func39 (by kernel_rfl) rfl #[.pointer (some ⟨g, 0, none⟩), .int .i64 11] rfl (by (try simp only [List.map_toArray, List.map_cons, List.map_nil]); rfl) ?_; (with_reducible refine (spec_l6Rd_pick.calls k g s0_0 t432 11 t437 t438 w0 _ ?side1 ?side2 A10.out).mono ?_); (case side1 => repeat ((with_reducible exact HI0.out))); (case side2 => repeat ((with_reducible exact HB.out))); rintro e w17 ⟨rfl, hi, hb, hk⟩; refine ⟨_, rfl, ?_⟩; replace HO436 := Aside0.mk (Kd.R_mono (Kd.R_keep (IsS74.apart (show IsS74 w0 _ g s0_0 t432 from by repeat ((with_reducible exact HI0.out))) HO436.out (by decide)) hk (fun _ h => h.2)) (fun _ h => h.1)); replace HK := Aside0.mk (KeepBut.trans HK.out hk (.inl rfl)); replace HB := Aside0.mk hb; replace HI0 := Aside0.mk hi; (try clear hb); (try clear hk); (try clear hi); obtain ⟨Ao18, co18, eo18⟩ := Kd.R_slice HO436.out; subst eo18; have p439 : 0 ≤ (t437 : Int) := of_decide_eq_true (by (with_reducible assumption)); have q439 : t437 < (y434.length : Int) := of_decide_eq_true (by (with_reducible assumption)); obtain ⟨ad439, e439, hx439_0⟩ := Kd.at_string (Kd.R_reads' HO436.out).2.2 t437 p439 q439; cases e439; replace p439 := eq_true p439; replace q439 := eq_true q439))
         go_ret
         exact ⟨by first | rfl | (simp [*, errW_none, errW_some] <;> rfl), HI0.out, HB.out, HK.out⟩
        ·rw [if_neg c12] at H
         exact absurd H (by simp)
       ·rw [if_neg c11] at H
        exact absurd H (by simp)
      ·rw [if_neg c9] at H
       exact absurd H (by simp)
     ·rw [if_neg c8] at H
      exact absurd H (by simp)
    ·rw [if_neg c7] at H
     exact absurd H (by simp)
   ·rw [if_neg c6] at H
    exact absurd H (by simp)
  ·rw [if_neg c5] at H
   exact absurd H (by simp)
 ·rw [if_neg c4] at H
  exact absurd H (by simp)


def spec_DrawProofRestIs.f (k : Nat) (l0 : List Int) : Option (ByteArray × Int × ByteArray) := (spec_l6Open.f l0).bind fun bt440 => ((spec_l91Set.f k bt440.1 bt440.2).bind fun bt443 => ((spec_l6Rd_pick.f k bt440.1 bt443.2 40).bind fun bt445 => ((spec_l6Rd_pick.f k bt440.1 bt445.2 200).bind fun bt447 => ((some (([wrap64 (1 + bt445.1), wrap64 (1 + bt447.1), 1000, 1001, 0] : List Int) : List Int)).bind fun y449 => ((spec_l6Rd_pick.f k bt440.1 bt447.2 5).bind fun bt452 => (if 0 ≤ bt452.1 then (if bt452.1 < (y449.length : Int) then ((spec_l91Proof.f k bt440.1 bt452.2).bind fun bt455 => (some (bt443.1, rd y449 bt452.1, bt455.1))) else (none)) else (none)))))))
theorem spec_DrawProofRestIs.mono : ∀ a0 k, LeO (spec_DrawProofRestIs.f k a0) (spec_DrawProofRestIs.f (k + 1) a0) := by
 intro a0 k
 unfold spec_DrawProofRestIs.f
 repeat' first | (with_reducible exact spec_l6Rd_pick.mono _ _ _ _) | (with_reducible exact spec_l91Proof.mono _ _ _) | (with_reducible exact spec_l91Set.mono _ _ _) | (with_reducible exact LeO.refl _) | (with_reducible refine LeO.ite ?_ ?_) | (with_reducible refine LeO.bind ?_ (fun _ => ?_))
def spec_DrawProofRestIs.T2 : Bool × List (List Nat × List Nat) := (true, [([], []), ([0], [0]), ([], []), ([2, 1], [2]), ([3], [3]), ([], []), ([5, 3], [5]), ([6], [6]), ([4, 7], [4, 7]), ([], []), ([9, 6], [9]), ([8, 10], [8, 10]), ([11], [11]), ([], []), ([13, 10], [13]), ([1, 14, 0, 1], [1]), ([12, 15, 0, 1, 2, 3, 4, 5, 6, 7, 8, 9, 10, 11, 12, 15], [12]), ([14, 16, 0, 1, 2, 3, 4, 5, 6, 7, 8, 9, 10, 11, 12, 13, 14, 15, 16], [14])])
def spec_DrawProofRestIs.B2 : List Nat := [0, 1, 0, 7, 15, 0, 47, 111, 255, 0, 623, 2047, 4095, 0, 9839, 26223, 65535, 131071]
theorem spec_DrawProofRestIs.tab2 : rtab .any (opsOf Tryd.f20 2) = spec_DrawProofRestIs.T2 := by kernel_rfl
theorem spec_DrawProofRestIs.bits2 : waitsOk spec_DrawProofRestIs.T2.2 spec_DrawProofRestIs.B2 = true := by kernel_rfl
set_option maxHeartbeats 8000000 in
set_option maxRecDepth 100000 in
theorem spec_DrawProofRestIs.calls (k : Nat) (A0 : Option Addr) (c0 : Nat) (l0 : List Int) (r1 : ByteArray) (r2 : Int) (r3 : ByteArray) (w : World) (hr0 : Kd.C (Kd.int .u8) w A0 l0.length l0) (hc0 : l0.length ≤ c0) (h : spec_DrawProofRestIs.f k l0 = some (r1, r2, r3)) :
  Calls Tryd.prog 20 #[.slice A0 l0.length c0] w fun e w' => e = .returned (.tuple #[.string r1, .int .i64 r2, .string r3]) ∧ Below w.heap.size w w' := by
 have HR0 := Aside0.mk hr0
 have HC0 := Aside0.mk hc0
 clear hr0 hc0
 have HB := Aside0.mk (Below.refl w.heap.size w)
 have H : ((spec_l6Open.f l0).bind fun bt440 => ((spec_l91Set.f k bt440.1 bt440.2).bind fun bt443 => ((spec_l6Rd_pick.f k bt440.1 bt443.2 40).bind fun bt445 => ((spec_l6Rd_pick.f k bt440.1 bt445.2 200).bind fun bt447 => ((some (([wrap64 (1 + bt445.1), wrap64 (1 + bt447.1), 1000, 1001, 0] : List Int) : List Int)).bind fun y449 => ((spec_l6Rd_pick.f k bt440.1 bt447.2 5).bind fun bt452 => (if 0 ≤ bt452.1 then (if bt452.1 < (y449.length : Int) then ((spec_l91Proof.f k bt440.1 bt452.2).bind fun bt455 => (some (bt443.1, rd y449 bt452.1, bt455.1))) else (none)) else (none)))))))) = some (r1, r2, r3) := h
 clear h
 replace H := Option.bind_eq_some_iff.mp H
 obtain ⟨⟨t440, t441⟩, A20, H⟩ := H
 replace H : ((spec_l91Set.f k t440 t441).bind fun bt443 => ((spec_l6Rd_pick.f k t440 bt443.2 40).bind fun bt445 => ((spec_l6Rd_pick.f k t440 bt445.2 200).bind fun bt447 => ((some (([wrap64 (1 + bt445.1), wrap64 (1 + bt447.1), 1000, 1001, 0] : List Int) : List Int)).bind fun y449 => ((spec_l6Rd_pick.f k t440 bt447.2 5).bind fun bt452 => (if 0 ≤ bt452.1 then (if bt452.1 < (y449.length : Int) then ((spec_l91Proof.f k t440 bt452.2).bind fun bt455 => (some (bt443.1, rd y449 bt452.1, bt455.1))) else (none)) else (none))))))) = some (r1, r2, r3) := H
 have A2 := Aside0.mk A20
 clear A20
 replace H := Option.bind_eq_some_iff.mp H
 obtain ⟨⟨t443, t444⟩, A30, H⟩ := H
 replace H : ((spec_l6Rd_pick.f k t440 t444 40).bind fun bt445 => ((spec_l6Rd_pick.f k t440 bt445.2 200).bind fun bt447 => ((some (([wrap64 (1 + bt445.1), wrap64 (1 + bt447.1), 1000, 1001, 0] : List Int) : List Int)).bind fun y449 => ((spec_l6Rd_pick.f k t440 bt447.2 5).bind fun bt452 => (if 0 ≤ bt452.1 then (if bt452.1 < (y449.length : Int) then ((spec_l91Proof.f k t440 bt452.2).bind fun bt455 => (some (t443, rd y449 bt452.1, bt455.1))) else (none)) else (none)))))) = some (r1, r2, r3) := H
 have A3 := Aside0.mk A30
 clear A30
 replace H := Option.bind_eq_some_iff.mp H
 obtain ⟨⟨t445, t446⟩, A40, H⟩ := H
 replace H : ((spec_l6Rd_pick.f k t440 t446 200).bind fun bt447 => ((some (([wrap64 (1 + t445), wrap64 (1 + bt447.1), 1000, 1001, 0] : List Int) : List Int)).bind fun y449 => ((spec_l6Rd_pick.f k t440 bt447.2 5).bind fun bt452 => (if 0 ≤ bt452.1 then (if bt452.1 < (y449.length : Int) then ((spec_l91Proof.f k t440 bt452.2).bind fun bt455 => (some (t443, rd y449 bt452.1, bt455.1))) else (none)) else (none))))) = some (r1, r2, r3) := H
 have A4 := Aside0.mk A40
 clear A40
 replace H := Option.bind_eq_some_iff.mp H
 obtain ⟨⟨t447, t448⟩, A50, H⟩ := H
 replace H : ((some (([wrap64 (1 + t445), wrap64 (1 + t447), 1000, 1001, 0] : List Int) : List Int)).bind fun y449 => ((spec_l6Rd_pick.f k t440 t448 5).bind fun bt452 => (if 0 ≤ bt452.1 then (if bt452.1 < (y449.length : Int) then ((spec_l91Proof.f k t440 bt452.2).bind fun bt455 => (some (t443, rd y449 bt452.1, bt455.1))) else (none)) else (none)))) = some (r1, r2, r3) := H
 have A5 := Aside0.mk A50
 clear A50
 obtain ⟨y449, hy449⟩ : ∃ y_ : List Int, y_ = (([wrap64 (1 + t445), wrap64 (1 + t447), 1000, 1001, 0] : List Int)) := ⟨_, rfl⟩
 replace H : ((spec_l6Rd_pick.f k t440 t448 5).bind fun bt452 => (if 0 ≤ bt452.1 then (if bt452.1 < (y449.length : Int) then ((spec_l91Proof.f k t440 bt452.2).bind fun bt455 => (some (t443, rd y449 bt452.1, bt455.1))) else (none)) else (none))) = some (r1, r2, r3) := by first | (have H2_ := (Option.bind_some _ _).symm.trans H; rw [hy449]; with_reducible exact H2_)
 have Ny449 := Aside0.mk hy449
 clear hy449
 replace H := Option.bind_eq_some_iff.mp H
 obtain ⟨⟨t452, t453⟩, A60, H⟩ := H
 replace H : (if 0 ≤ t452 then (if t452 < (y449.length : Int) then ((spec_l91Proof.f k t440 t453).bind fun bt455 => (some (t443, rd y449 t452, bt455.1))) else (none)) else (none)) = some (r1, r2, r3) := H
 have A6 := Aside0.mk A60
 clear A60
 by_cases c7 : 0 ≤ t452
 ·rw [if_pos c7] at H
  have c7b0 : decide (0 ≤ t452) = true := decide_eq_true c7
  clear c7
  by_cases c8 : t452 < (y449.length : Int)
  ·rw [if_pos c8] at H
   have c8b0 : decide (t452 < (y449.length : Int)) = true := decide_eq_true c8
   clear c8
   replace H := Option.bind_eq_some_iff.mp H
   obtain ⟨⟨t455, t456⟩, A90, H⟩ := H
   replace H : (some (t443, rd y449 t452, t455)) = some (r1, r2, r3) := H
   have A9 := Aside0.mk A90
   clear A90
   simp only [Option.some.injEq, Prod.mk.injEq] at H
   obtain ⟨rfl, rfl, rfl⟩ := H
   go_enter Tryd.func20, Tryd.ntmps20
   try go_wp2_with (first | ((with_reducible refine gate_callee (f := 37) rfl ?_); refine goesL_ (some 7) rfl rfl Tryd.func37 (by kernel_rfl) rfl #[.slice A0 l0.length c0] rfl (by (try simp only [List.map_toArray, List.map_cons, List.map_nil]); rfl) ?_; (with_reducible refine (spec_l6Open.calls _ _ l0 t440 t441 w _ ?side1 ?side2 ?side3 A2.out).mono ?_); (case side1 => repeat ((with_reducible exact HB.out))); (case side2 => exact HR0.out); (case side3 => exact HC0.out); rintro e w10 ⟨g442, rfl, hi, hb, hb2⟩; refine ⟨_, rfl, ?_⟩; replace HB := Aside0.mk hb; have HI442 := Aside0.mk hi; (try clear hb); (try clear hb2); (try clear hi)))
   have pi454 : (0 ≤ (t452 : Int)) = True := eq_true (of_decide_eq_true (by (with_reducible assumption)))
   have qi454 : (t452 < (y449.length : Int)) = True := eq_true (of_decide_eq_true (by (with_reducible assumption)))
   replace HI442 := Aside0.mk (IsS74.drew HI442.out)
   replace HB := Aside0.mk (below_drew1 HB.out)
   refine start_ (n := 18) (S := fun w' => True) (ds := []) #[false, false, false, false, false, false, false, false, false, false, false, false, false, false, false, false, false, false] (by kernel_rfl) rfl rfl trivial (fun hHeld => ?_); refine with_tabW spec_DrawProofRestIs.tab2 spec_DrawProofRestIs.bits2 (fun HT_ HW_ => ?_)
   generalize w10.drew = w11 at HI442 HB hHeld ⊢
   refine pure_ (i := 0) (N := some 8) (v := ?_) (a' := ?_) #[true, false, false, false, false, false, false, false, false, false, false, false, false, false, false, false, false, false] rfl rfl (any_of HT_.out (by kernel_rfl)) (fun _ _ _ h => h) (Or.inl ⟨by rfl, ?_⟩) ?_ ?_
   rotate_left
   ·intro w'
    go_simp
    with_reducible rfl
   rotate_left
   ·simp only [Act.put, List.setIfInBounds_toArray, List.set_cons_zero, List.set_cons_succ, i64_w, i32_w]
    rfl
   refine pure_ (i := 2) (N := some 10) (v := ?_) (a' := ?_) #[true, false, true, false, false, false, false, false, false, false, false, false, false, false, false, false, false, false] rfl rfl (any_of HT_.out (by kernel_rfl)) (fun _ _ _ h => h) (Or.inl ⟨by rfl, ?_⟩) ?_ ?_
   rotate_left
   ·intro w'
    go_simp
    with_reducible rfl
   rotate_left
   ·simp only [Act.put, List.setIfInBounds_toArray, List.set_cons_zero, List.set_cons_succ, i64_w, i32_w]
    rfl
   refine pure_ (i := 5) (N := some 13) (v := ?_) (a' := ?_) #[true, false, true, false, false, true, false, false, false, false, false, false, false, false, false, false, false, false] rfl rfl (any_of HT_.out (by kernel_rfl)) (fun _ _ _ h => h) (Or.inl ⟨by rfl, ?_⟩) ?_ ?_
   rotate_left
   ·intro w'
    go_simp
    with_reducible rfl
   rotate_left
   ·simp only [Act.put, List.setIfInBounds_toArray, List.set_cons_zero, List.set_cons_succ, i64_w, i32_w]
    rfl
   refine pure_ (i := 9) (N := some 17) (v := ?_) (a' := ?_) #[true, false, true, false, false, true, false, false, false, true, false, false, false, false, false, false, false, false] rfl rfl (any_of HT_.out (by kernel_rfl)) (fun _ _ _ h => h) (Or.inl ⟨by rfl, ?_⟩) ?_ ?_
   rotate_left
   ·intro w'
    go_simp
    with_reducible rfl
   rotate_left
   ·simp only [Act.put, List.setIfInBounds_toArray, List.set_cons_zero, List.set_cons_succ, i64_w, i32_w]
    rfl
   refine pure_ (i := 13) (N := some 21) (v := ?_) (a' := ?_) #[true, false, true, false, false, true, false, false, false, true, false, false, false, true, false, false, false, false] rfl rfl (any_of HT_.out (by kernel_rfl)) (fun _ _ _ h => h) (Or.inl ⟨by rfl, ?_⟩) ?_ ?_
   rotate_left
   ·intro w'
    go_simp
    with_reducible rfl
   rotate_left
   ·simp only [Act.put, List.setIfInBounds_toArray, List.set_cons_zero, List.set_cons_succ, i64_w, i32_w]
    rfl
   refine inv_at [1, 3, 4, 6, 7, 8, 10, 11, 12, 14, 15, 16, 17] (fun a0_ b a w' => ∃ (v450 : Value) (adz_v450 : Addr) (m11_ : Value), a = putSel a0_ b [(1, 9, .string t443), (3, 11, .int .i64 t445), (4, 12, .int .i64 (wrap64 (1 + t445))), (6, 14, .int .i64 t447), (7, 15, .int .i64 (wrap64 (1 + t447))), (8, 16, v450), (10, 18, .int .i64 t452), (11, 19, m11_), (12, 20, .int .i64 (rd y449 t452)), (14, 22, .string t455), (15, 2, .string t443), (16, 3, .int .i64 (rd y449 t452)), (17, 4, .string t455)] ∧ (b 1 = false → IsS74 w w' g442 t440 t441) ∧ (Below w.heap.size w w') ∧ (b 1 = true → b 3 = false → IsS74 w w' g442 t440 t444) ∧ (b 3 = true → b 6 = false → IsS74 w w' g442 t440 t446) ∧ (b 6 = true → b 10 = false → IsS74 w w' g442 t440 t448) ∧ (b 8 = true → Kd.R (Kd.int .i64) 3 w' w.heap.size (fun _ => True) v450 y449) ∧ (b 8 = true → ∃ c_, (v450 : Value) = .slice (some adz_v450) y449.length c_) ∧ (b 10 = true → b 14 = false → IsS74 w w' g442 t440 t453) ∧ (b 14 = true → IsS74 w w' g442 t440 t456) ∧ (b 11 = true → (m11_ : Value) = .pointer (some (adz_v450.add (t452).toNat)))) HT_.out HW_.out (by kernel_rfl) (by kernel_rfl) ?_ ?_ ?_
   ·exact ⟨.bool false, ⟨0, 0, none⟩, .bool false, by simp only [putSel, Bool.false_eq_true, if_false], fun _ => HI442.out, HB.out, fun h_ => absurd h_ (by decide), fun h_ => absurd h_ (by decide), fun h_ => absurd h_ (by decide), fun h_ => absurd h_ (by decide), fun h_ => absurd h_ (by decide), fun h_ => absurd h_ (by decide), fun h_ => absurd h_ (by decide), fun h_ => absurd h_ (by decide)⟩
   ·skip
    clear HB HI442
    refine steps_cons ?_ ?_
    ·rintro b a w' ⟨v450, adz_v450, m11_, ha, Q_HI442, Q_HB, Q_HI442_e1, Q_HI442_e3, Q_HI442_e6, Q_HO451, Q_HA_HO451, Q_HI442_e10, Q_HI442_e14, Q_X11_⟩ hb_ hon hoff
     refine ⟨_, rfl, fun K hK => ?_⟩
     have e8 : a.tmps[8]? = some (.pointer (some ⟨g442, 0, none⟩)) := by rw [ha]; exact (putSel_off rfl).trans rfl
     replace ha := Aside0.mk ha
     have HI442 := Aside0.mk (Q_HI442 hb_)
     have HB := Aside0.mk Q_HB
     refine goes_ Tryd.func38 (by kernel_rfl) rfl #[.pointer (some ⟨g442, 0, none⟩)] (by rfl) rfl rfl (by first | (simp only [List.map_toArray, List.map_cons, List.map_nil, Act.eval, Array.getD_eq_getD_getElem?, Option.getD_some, e8]; done)) ?_
     with_reducible refine (spec_l91Set.calls k g442 t440 t441 t443 t444 w _ ?side1 ?side2 A3.out).mono ?_
     (case side1 => repeat ((with_reducible exact HI442.out)))
     (case side2 => repeat ((with_reducible exact HB.out)))
     rintro e w12 ⟨rfl, hi, hb, hk⟩
     refine ⟨_, rfl, ?_⟩
     replace HB := Aside0.mk hb
     replace HI442 := Aside0.mk hi
     (try clear hb)
     (try clear hk)
     (try clear hi)
     refine hK.out _ _ ⟨v450, adz_v450, m11_, (by rw [ha.out]; exact putSel_upk 0 hb_ rfl rfl rfl), fun h0_ => absurd ((up_self b 1).symm.trans h0_) (by decide), HB.out, fun _ _ => HI442.out, fun h0_ _ => absurd ((hoff 3 (by kernel_rfl)).symm.trans h0_) (by decide), fun h0_ _ => absurd ((hoff 6 (by kernel_rfl)).symm.trans h0_) (by decide), fun h0_ => absurd ((hoff 8 (by kernel_rfl)).symm.trans h0_) (by decide), fun h0_ => absurd ((hoff 8 (by kernel_rfl)).symm.trans h0_) (by decide), fun h0_ _ => absurd ((hoff 10 (by kernel_rfl)).symm.trans h0_) (by decide), fun h0_ => absurd ((hoff 14 (by kernel_rfl)).symm.trans h0_) (by decide), fun h0_ => absurd ((hoff 11 (by kernel_rfl)).symm.trans h0_) (by decide)⟩
    refine steps_cons ?_ ?_
    ·rintro b a w' ⟨v450, adz_v450, m11_, ha, Q_HI442, Q_HB, Q_HI442_e1, Q_HI442_e3, Q_HI442_e6, Q_HO451, Q_HA_HO451, Q_HI442_e10, Q_HI442_e14, Q_X11_⟩ hb_ hon hoff
     refine ⟨_, rfl, fun K hK => ?_⟩
     have e10 : a.tmps[10]? = some (.pointer (some ⟨g442, 0, none⟩)) := by rw [ha]; exact (putSel_off rfl).trans rfl
     replace ha := Aside0.mk ha
     have HB := Aside0.mk Q_HB
     have HI442 := Aside0.mk (Q_HI442_e1 (hon 1 (by kernel_rfl)) hb_)
     refine goes_ Tryd.func39 (by kernel_rfl) rfl #[.pointer (some ⟨g442, 0, none⟩), .int .i64 40] (by rfl) rfl rfl (by first | (simp only [List.map_toArray, List.map_cons, List.map_nil, Act.eval, Array.getD_eq_getD_getElem?, Option.getD_some, e10]; done)) ?_
     with_reducible refine (spec_l6Rd_pick.calls k g442 t440 t444 40 t445 t446 w _ ?side1 ?side2 A4.out).mono ?_
     (case side1 => repeat ((with_reducible exact HI442.out)))
     (case side2 => repeat ((with_reducible exact HB.out)))
     rintro e w14 ⟨rfl, hi, hb, hk⟩
     refine ⟨_, rfl, ?_⟩
     replace HB := Aside0.mk hb
     replace HI442 := Aside0.mk hi
     (try clear hb)
     (try clear hk)
     (try clear hi)
     refine hK.out _ _ ⟨v450, adz_v450, m11_, (by rw [ha.out]; exact putSel_upk 1 hb_ rfl rfl rfl), fun h0_ => absurd ((hon 1 (by kernel_rfl)).symm.trans h0_) (by decide), HB.out, fun _ h1_ => absurd ((up_self b 3).symm.trans h1_) (by decide), fun _ _ => HI442.out, fun h0_ _ => absurd ((hoff 6 (by kernel_rfl)).symm.trans h0_) (by decide), fun h0_ => absurd ((hoff 8 (by kernel_rfl)).symm.trans h0_) (by decide), fun h0_ => absurd ((hoff 8 (by kernel_rfl)).symm.trans h0_) (by decide), fun h0_ _ => absurd ((hoff 10 (by kernel_rfl)).symm.trans h0_) (by decide), fun h0_ => absurd ((hoff 14 (by kernel_rfl)).symm.trans h0_) (by decide), fun h0_ => absurd ((hoff 11 (by kernel_rfl)).symm.trans h0_) (by decide)⟩
    refine steps_cons ?_ ?_
    ·rintro b a w' ⟨v450, adz_v450, m11_, ha, Q_HI442, Q_HB, Q_HI442_e1, Q_HI442_e3, Q_HI442_e6, Q_HO451, Q_HA_HO451, Q_HI442_e10, Q_HI442_e14, Q_X11_⟩ hb_ hon hoff
     refine ⟨_, rfl, fun K hK => ?_⟩
     have e11 : a.tmps[11]? = some (.int .i64 t445) := by rw [ha]; exact putSel_on (e := (3, 11, .int .i64 t445)) 1 rfl rfl (hon 3 (by kernel_rfl)) rfl
     replace ha := Aside0.mk ha
     have HB := Aside0.mk Q_HB
     refine value_ (w1 := w') (v := .int .i64 (wrap64 (1 + t445))) (by rfl) rfl ?_ ?_
     ·go_simp
      (try simp only [i64_w])
     refine hK.out _ _ ⟨v450, adz_v450, m11_, (by rw [ha.out]; exact putSel_upk 2 hb_ rfl rfl rfl), fun h0_ => absurd ((hon 1 (by kernel_rfl)).symm.trans h0_) (by decide), Q_HB, fun _ h1_ => absurd ((hon 3 (by kernel_rfl)).symm.trans h1_) (by decide), Q_HI442_e3, Q_HI442_e6, fun h0_ => absurd ((hoff 8 (by kernel_rfl)).symm.trans h0_) (by decide), fun h0_ => absurd ((hoff 8 (by kernel_rfl)).symm.trans h0_) (by decide), Q_HI442_e10, Q_HI442_e14, fun h0_ => absurd ((hoff 11 (by kernel_rfl)).symm.trans h0_) (by decide)⟩
    refine steps_cons ?_ ?_
    ·rintro b a w' ⟨v450, adz_v450, m11_, ha, Q_HI442, Q_HB, Q_HI442_e1, Q_HI442_e3, Q_HI442_e6, Q_HO451, Q_HA_HO451, Q_HI442_e10, Q_HI442_e14, Q_X11_⟩ hb_ hon hoff
     refine ⟨_, rfl, fun K hK => ?_⟩
     have e13 : a.tmps[13]? = some (.pointer (some ⟨g442, 0, none⟩)) := by rw [ha]; exact (putSel_off rfl).trans rfl
     replace ha := Aside0.mk ha
     have HB := Aside0.mk Q_HB
     have HI442 := Aside0.mk (Q_HI442_e3 (hon 3 (by kernel_rfl)) hb_)
     refine goes_ Tryd.func39 (by kernel_rfl) rfl #[.pointer (some ⟨g442, 0, none⟩), .int .i64 200] (by rfl) rfl rfl (by first | (simp only [List.map_toArray, List.map_cons, List.map_nil, Act.eval, Array.getD_eq_getD_getElem?, Option.getD_some, e13]; done)) ?_
     with_reducible refine (spec_l6Rd_pick.calls k g442 t440 t446 200 t447 t448 w _ ?side1 ?side2 A5.out).mono ?_
     (case side1 => repeat ((with_reducible exact HI442.out)))
     (case side2 => repeat ((with_reducible exact HB.out)))
     rintro e w15 ⟨rfl, hi, hb, hk⟩
     refine ⟨_, rfl, ?_⟩
     replace HB := Aside0.mk hb
     replace HI442 := Aside0.mk hi
     (try clear hb)
     (try clear hk)
     (try clear hi)
     refine hK.out _ _ ⟨v450, adz_v450, m11_, (by rw [ha.out]; exact putSel_upk 3 hb_ rfl rfl rfl), fun h0_ => absurd ((hon 1 (by kernel_rfl)).symm.trans h0_) (by decide), HB.out, fun _ h1_ => absurd ((hon 3 (by kernel_rfl)).symm.trans h1_) (by decide), fun _ h1_ => absurd ((up_self b 6).symm.trans h1_) (by decide), fun _ _ => HI442.out, fun h0_ => absurd ((hoff 8 (by kernel_rfl)).symm.trans h0_) (by decide), fun h0_ => absurd ((hoff 8 (by kernel_rfl)).symm.trans h0_) (by decide), fun h0_ _ => absurd ((hoff 10 (by kernel_rfl)).symm.trans h0_) (by decide), fun h0_ => absurd ((hoff 14 (by kernel_rfl)).symm.trans h0_) (by decide), fun h0_ => absurd ((hoff 11 (by kernel_rfl)).symm.trans h0_) (by decide)⟩
    refine steps_cons ?_ ?_
    ·rintro b a w' ⟨v450, adz_v450, m11_, ha, Q_HI442, Q_HB, Q_HI442_e1, Q_HI442_e3, Q_HI442_e6, Q_HO451, Q_HA_HO451, Q_HI442_e10, Q_HI442_e14, Q_X11_⟩ hb_ hon hoff
     refine ⟨_, rfl, fun K hK => ?_⟩
     have e14 : a.tmps[14]? = some (.int .i64 t447) := by rw [ha]; exact putSel_on (e := (6, 14, .int .i64 t447)) 3 rfl rfl (hon 6 (by kernel_rfl)) rfl
     replace ha := Aside0.mk ha
     have HB := Aside0.mk Q_HB
     refine value_ (w1 := w') (v := .int .i64 (wrap64 (1 + t447))) (by rfl) rfl ?_ ?_
     ·go_simp
      (try simp only [i64_w])
     refine hK.out _ _ ⟨v450, adz_v450, m11_, (by rw [ha.out]; exact putSel_upk 4 hb_ rfl rfl rfl), fun h0_ => absurd ((hon 1 (by kernel_rfl)).symm.trans h0_) (by decide), Q_HB, fun _ h1_ => absurd ((hon 3 (by kernel_rfl)).symm.trans h1_) (by decide), fun _ h1_ => absurd ((hon 6 (by kernel_rfl)).symm.trans h1_) (by decide), Q_HI442_e6, fun h0_ => absurd ((hoff 8 (by kernel_rfl)).symm.trans h0_) (by decide), fun h0_ => absurd ((hoff 8 (by kernel_rfl)).symm.trans h0_) (by decide), Q_HI442_e10, Q_HI442_e14, fun h0_ => absurd ((hoff 11 (by kernel_rfl)).symm.trans h0_) (by decide)⟩
    refine steps_cons ?_ ?_
    ·rintro b a w' ⟨v450, adz_v450, m11_, ha, Q_HI442, Q_HB, Q_HI442_e1, Q_HI442_e3, Q_HI442_e6, Q_HO451, Q_HA_HO451, Q_HI442_e10, Q_HI442_e14, Q_X11_⟩ hb_ hon hoff
     refine ⟨_, rfl, fun K hK => ?_⟩
     have e12 : a.tmps[12]? = some (.int .i64 (wrap64 (1 + t445))) := by rw [ha]; exact putSel_on (e := (4, 12, .int .i64 (wrap64 (1 + t445)))) 2 rfl rfl (hon 4 (by kernel_rfl)) rfl
     have e15 : a.tmps[15]? = some (.int .i64 (wrap64 (1 + t447))) := by rw [ha]; exact putSel_on (e := (7, 15, .int .i64 (wrap64 (1 + t447)))) 4 rfl rfl (hon 7 (by kernel_rfl)) rfl
     replace ha := Aside0.mk ha
     have HB := Aside0.mk Q_HB
     refine Kd.R_lit_step (Kd.int .i64) _ 3 ?hg (N := 16) ?hd (xs := ([wrap64 (1 + t445), wrap64 (1 + t447), 1000, 1001, 0] : List Int)) (inner := [.int .i64 (wrap64 (1 + t445)), .int .i64 (wrap64 (1 + t447)), .int .i64 1000, .int .i64 1001, .int .i64 0]) (ok := fun _ => True) (okp := fun _ => True) ?hr ?hp (fun _ hk => hk) trivial (Below.refl _ _) (Nat.le_refl _) (by simp) ?_; (case hd => rfl); (case hg => rfl); (case hr => first | (go_simp; done)); (case hp => exact (Reps.one (show Kd.M (Kd.int .i64) _ _ _ (wrap64 (1 + t445)) [.int .i64 (wrap64 (1 + t445))] from rfl) (Reps.one (show Kd.M (Kd.int .i64) _ _ _ (wrap64 (1 + t447)) [.int .i64 (wrap64 (1 + t447))] from rfl) (Reps.one (show Kd.M (Kd.int .i64) _ _ _ 1000 [.int .i64 1000] from rfl) (Reps.one (show Kd.M (Kd.int .i64) _ _ _ 1001 [.int .i64 1001] from rfl) (Reps.one (show Kd.M (Kd.int .i64) _ _ _ 0 [.int .i64 0] from rfl) (Reps.none _ _)))))))
     intro v450 w16 ho17 hb hg_ hnew_
     clear hg_ hnew_
     (rw [← Ny449.out] at ho17)
     have n0_ := Aside0.mk (Kd.R_lower ho17 (below_size HB.out))
     have n2_ := Aside0.mk (below_step HB.out hb)
     have z_HI442_e6 := fun (h0_ : b 6 = true) (h1_ : b 10 = false) => (show IsS74 w w16 g442 t440 t448 from by exact (IsS74.below (by repeat ((with_reducible exact (Q_HI442_e6 h0_ h1_)))) hb))
     have z_HI442_e10 := fun (h0_ : b 10 = true) (h1_ : b 14 = false) => (show IsS74 w w16 g442 t440 t453 from by exact (IsS74.below (by repeat ((with_reducible exact (Q_HI442_e10 h0_ h1_)))) hb))
     have z_HI442_e14 := fun (h0_ : b 14 = true) => (show IsS74 w w16 g442 t440 t456 from by exact (IsS74.below (by repeat ((with_reducible exact (Q_HI442_e14 h0_)))) hb))
     clear HB
     have HO451 := n0_
     have HB := n2_
     clear n0_ n2_
     clear hb ho17
     obtain ⟨Ao18, co18, eo18⟩ := Kd.R_slice HO451.out
     subst eo18
     obtain ⟨ado18, fo18, _⟩ := Kd.at_int (Kd.R_reads' HO451.out).2.2 0 (by decide) (by rw [Ny449.out]; simp)
     cases fo18
     refine hK.out _ _ ⟨.slice (some ado18) y449.length co18, ado18, m11_, (by rw [ha.out]; exact putSel_upk 5 hb_ rfl rfl rfl), fun h0_ => absurd ((hon 1 (by kernel_rfl)).symm.trans h0_) (by decide), HB.out, fun _ h1_ => absurd ((hon 3 (by kernel_rfl)).symm.trans h1_) (by decide), fun _ h1_ => absurd ((hon 6 (by kernel_rfl)).symm.trans h1_) (by decide), z_HI442_e6, fun _ => HO451.out, fun _ => ⟨_, rfl⟩, z_HI442_e10, z_HI442_e14, fun h0_ => absurd ((hoff 11 (by kernel_rfl)).symm.trans h0_) (by decide)⟩
    refine steps_cons ?_ ?_
    ·rintro b a w' ⟨v450, adz_v450, m11_, ha, Q_HI442, Q_HB, Q_HI442_e1, Q_HI442_e3, Q_HI442_e6, Q_HO451, Q_HA_HO451, Q_HI442_e10, Q_HI442_e14, Q_X11_⟩ hb_ hon hoff
     refine ⟨_, rfl, fun K hK => ?_⟩
     have e17 : a.tmps[17]? = some (.pointer (some ⟨g442, 0, none⟩)) := by rw [ha]; exact (putSel_off rfl).trans rfl
     replace ha := Aside0.mk ha
     have HB := Aside0.mk Q_HB
     have HI442 := Aside0.mk (Q_HI442_e6 (hon 6 (by kernel_rfl)) hb_)
     refine goes_ Tryd.func39 (by kernel_rfl) rfl #[.pointer (some ⟨g442, 0, none⟩), .int .i64 5] (by rfl) rfl rfl (by first | (simp only [List.map_toArray, List.map_cons, List.map_nil, Act.eval, Array.getD_eq_getD_getElem?, Option.getD_some, e17]; done)) ?_
     with_reducible refine (spec_l6Rd_pick.calls k g442 t440 t448 5 t452 t453 w _ ?side1 ?side2 A6.out).mono ?_
     (case side1 => repeat ((with_reducible exact HI442.out)))
     (case side2 => repeat ((with_reducible exact HB.out)))
     rintro e w16 ⟨rfl, hi, hb, hk⟩
     refine ⟨_, rfl, ?_⟩
     have n0_ := Aside0.mk hb
     have n1_ := Aside0.mk hi
     have z_HO451 := fun (h0_ : b 8 = true) => (show Kd.R (Kd.int .i64) 3 w16 w.heap.size (fun _ => True) v450 y449 from by first | exact (Kd.R_mono (Kd.R_keep (IsS74.apart (show IsS74 w _ g442 t440 t448 from by repeat ((with_reducible exact HI442.out))) (by exact (Q_HO451 h0_)) (by decide)) hk (fun _ h => h.2)) (fun _ h => h.1)))
     clear HB
     clear HI442
     have HB := n0_
     have HI442 := n1_
     clear n0_ n1_
     (try clear hb)
     (try clear hk)
     (try clear hi)
     refine hK.out _ _ ⟨v450, adz_v450, m11_, (by rw [ha.out]; exact putSel_upk 6 hb_ rfl rfl rfl), fun h0_ => absurd ((hon 1 (by kernel_rfl)).symm.trans h0_) (by decide), HB.out, fun _ h1_ => absurd ((hon 3 (by kernel_rfl)).symm.trans h1_) (by decide), fun _ h1_ => absurd ((hon 6 (by kernel_rfl)).symm.trans h1_) (by decide), fun _ h1_ => absurd ((up_self b 10).symm.trans h1_) (by decide), z_HO451, Q_HA_HO451, fun _ _ => HI442.out, fun h0_ => absurd ((hoff 14 (by kernel_rfl)).symm.trans h0_) (by decide), fun h0_ => absurd ((hoff 11 (by kernel_rfl)).symm.trans h0_) (by decide)⟩
    refine steps_cons ?_ ?_
    ·rintro b a w' ⟨v450, adz_v450, m11_, ha, Q_HI442, Q_HB, Q_HI442_e1, Q_HI442_e3, Q_HI442_e6, Q_HO451, Q_HA_HO451, Q_HI442_e10, Q_HI442_e14, Q_X11_⟩ hb_ hon hoff
     refine ⟨_, rfl, fun K hK => ?_⟩
     have e16 : a.tmps[16]? = some (v450) := by rw [ha]; exact putSel_on (e := (8, 16, v450)) 5 rfl rfl (hon 8 (by kernel_rfl)) rfl
     have e18 : a.tmps[18]? = some (.int .i64 t452) := by rw [ha]; exact putSel_on (e := (10, 18, .int .i64 t452)) 6 rfl rfl (hon 10 (by kernel_rfl)) rfl
     replace ha := Aside0.mk ha
     have HB := Aside0.mk Q_HB
     have HO451 := Aside0.mk (Q_HO451 (hon 8 (by kernel_rfl)))
     have HA_HO451 := Aside0.mk (Q_HA_HO451 (hon 8 (by kernel_rfl)))
     obtain ⟨c_, hv_⟩ := HA_HO451.out
     rw [hv_] at e16
     refine value_ (w1 := w') (v := .pointer (some (adz_v450.add (t452).toNat))) (by rfl) rfl ?_ ?_
     ·go_simp
     refine hK.out _ _ ⟨v450, adz_v450, (.pointer (some (adz_v450.add (t452).toNat))), (by rw [ha.out]; exact putSel_upk 7 hb_ rfl rfl rfl), fun h0_ => absurd ((hon 1 (by kernel_rfl)).symm.trans h0_) (by decide), Q_HB, fun _ h1_ => absurd ((hon 3 (by kernel_rfl)).symm.trans h1_) (by decide), fun _ h1_ => absurd ((hon 6 (by kernel_rfl)).symm.trans h1_) (by decide), fun _ h1_ => absurd ((hon 10 (by kernel_rfl)).symm.trans h1_) (by decide), Q_HO451, Q_HA_HO451, Q_HI442_e10, Q_HI442_e14, fun _ => rfl⟩
    refine steps_cons ?_ ?_
    ·rintro b a w' ⟨v450, adz_v450, m11_, ha, Q_HI442, Q_HB, Q_HI442_e1, Q_HI442_e3, Q_HI442_e6, Q_HO451, Q_HA_HO451, Q_HI442_e10, Q_HI442_e14, Q_X11_⟩ hb_ hon hoff
     refine ⟨_, rfl, fun K hK => ?_⟩
     have e19 : a.tmps[19]? = some (m11_) := by rw [ha]; exact putSel_on (e := (11, 19, m11_)) 7 rfl rfl (hon 11 (by kernel_rfl)) rfl
     rw [Q_X11_ (hon 11 (by kernel_rfl))] at e19
     replace ha := Aside0.mk ha
     have HB := Aside0.mk Q_HB
     have HO451 := Aside0.mk (Q_HO451 (hon 8 (by kernel_rfl)))
     have HA_HO451 := Aside0.mk (Q_HA_HO451 (hon 8 (by kernel_rfl)))
     obtain ⟨c_, hv_⟩ := HA_HO451.out
     have hF_ := HO451.out
     rw [hv_] at hF_
     obtain ⟨ad_, ea_, hx_⟩ := Kd.at_int (Kd.R_reads' hF_).2.2 t452 (of_eq_true pi454) (of_eq_true qi454)
     cases ea_
     refine value_ (w1 := w') (v := .int .i64 (rd y449 t452)) (by rfl) rfl ?_ ?_
     ·go_simp
     refine hK.out _ _ ⟨v450, adz_v450, m11_, (by rw [ha.out]; exact putSel_upk 8 hb_ rfl rfl rfl), fun h0_ => absurd ((hon 1 (by kernel_rfl)).symm.trans h0_) (by decide), Q_HB, fun _ h1_ => absurd ((hon 3 (by kernel_rfl)).symm.trans h1_) (by decide), fun _ h1_ => absurd ((hon 6 (by kernel_rfl)).symm.trans h1_) (by decide), fun _ h1_ => absurd ((hon 10 (by kernel_rfl)).symm.trans h1_) (by decide), Q_HO451, Q_HA_HO451, Q_HI442_e10, Q_HI442_e14, Q_X11_⟩
    refine steps_cons ?_ ?_
    ·rintro b a w' ⟨v450, adz_v450, m11_, ha, Q_HI442, Q_HB, Q_HI442_e1, Q_HI442_e3, Q_HI442_e6, Q_HO451, Q_HA_HO451, Q_HI442_e10, Q_HI442_e14, Q_X11_⟩ hb_ hon hoff
     refine ⟨_, rfl, fun K hK => ?_⟩
     have e21 : a.tmps[21]? = some (.pointer (some ⟨g442, 0, none⟩)) := by rw [ha]; exact (putSel_off rfl).trans rfl
     replace ha := Aside0.mk ha
     have HB := Aside0.mk Q_HB
     have HI442 := Aside0.mk (Q_HI442_e10 (hon 10 (by kernel_rfl)) hb_)
     refine goes_ Tryd.func53 (by kernel_rfl) rfl #[.pointer (some ⟨g442, 0, none⟩)] (by rfl) rfl rfl (by first | (simp only [List.map_toArray, List.map_cons, List.map_nil, Act.eval, Array.getD_eq_getD_getElem?, Option.getD_some, e21]; done)) ?_
     with_reducible refine (spec_l91Proof.calls k g442 t440 t453 t455 t456 w _ ?side1 ?side2 A9.out).mono ?_
     (case side1 => repeat ((with_reducible exact HI442.out)))
     (case side2 => repeat ((with_reducible exact HB.out)))
     rintro e w17 ⟨rfl, hi, hb, hk⟩
     refine ⟨_, rfl, ?_⟩
     have n0_ := Aside0.mk hb
     have n1_ := Aside0.mk hi
     have z_HO451 := fun (h0_ : b 8 = true) => (show Kd.R (Kd.int .i64) 3 w17 w.heap.size (fun _ => True) v450 y449 from by first | exact (Kd.R_mono (Kd.R_keep (IsS74.apart (show IsS74 w _ g442 t440 t453 from by repeat ((with_reducible exact HI442.out))) (by exact (Q_HO451 h0_)) (by decide)) hk (fun _ h => h.2)) (fun _ h => h.1)))
     clear HB
     clear HI442
     have HB := n0_
     have HI442 := n1_
     clear n0_ n1_
     (try clear hb)
     (try clear hk)
     (try clear hi)
     refine hK.out _ _ ⟨v450, adz_v450, m11_, (by rw [ha.out]; exact putSel_upk 9 hb_ rfl rfl rfl), fun h0_ => absurd ((hon 1 (by kernel_rfl)).symm.trans h0_) (by decide), HB.out, fun _ h1_ => absurd ((hon 3 (by kernel_rfl)).symm.trans h1_) (by decide), fun _ h1_ => absurd ((hon 6 (by kernel_rfl)).symm.trans h1_) (by decide), fun _ h1_ => absurd ((hon 10 (by kernel_rfl)).symm.trans h1_) (by decide), z_HO451, Q_HA_HO451, fun _ h1_ => absurd ((up_self b 14).symm.trans h1_) (by decide), fun _ => HI442.out, Q_X11_⟩
    refine steps_cons ?_ ?_
    ·rintro b a w' ⟨v450, adz_v450, m11_, ha, Q_HI442, Q_HB, Q_HI442_e1, Q_HI442_e3, Q_HI442_e6, Q_HO451, Q_HA_HO451, Q_HI442_e10, Q_HI442_e14, Q_X11_⟩ hb_ hon hoff
     refine ⟨_, rfl, fun K hK => ?_⟩
     have e9 : a.tmps[9]? = some (.string t443) := by rw [ha]; exact putSel_on (e := (1, 9, .string t443)) 0 rfl rfl (hon 1 (by kernel_rfl)) rfl
     replace ha := Aside0.mk ha
     have HB := Aside0.mk Q_HB
     have HI442 := Aside0.mk (Q_HI442_e14 (hon 14 (by kernel_rfl)))
     refine value_ (w1 := w') (v := .string t443) (by rfl) rfl ?_ ?_
     ·go_simp
     refine hK.out _ _ ⟨v450, adz_v450, m11_, (by rw [ha.out]; exact putSel_upk 10 hb_ rfl rfl rfl), fun h0_ => absurd ((hon 1 (by kernel_rfl)).symm.trans h0_) (by decide), Q_HB, fun _ h1_ => absurd ((hon 3 (by kernel_rfl)).symm.trans h1_) (by decide), fun _ h1_ => absurd ((hon 6 (by kernel_rfl)).symm.trans h1_) (by decide), fun _ h1_ => absurd ((hon 10 (by kernel_rfl)).symm.trans h1_) (by decide), Q_HO451, Q_HA_HO451, fun _ h1_ => absurd ((hon 14 (by kernel_rfl)).symm.trans h1_) (by decide), Q_HI442_e14, Q_X11_⟩
    refine steps_cons ?_ ?_
    ·rintro b a w' ⟨v450, adz_v450, m11_, ha, Q_HI442, Q_HB, Q_HI442_e1, Q_HI442_e3, Q_HI442_e6, Q_HO451, Q_HA_HO451, Q_HI442_e10, Q_HI442_e14, Q_X11_⟩ hb_ hon hoff
     refine ⟨_, rfl, fun K hK => ?_⟩
     have e20 : a.tmps[20]? = some (.int .i64 (rd y449 t452)) := by rw [ha]; exact putSel_on (e := (12, 20, .int .i64 (rd y449 t452))) 8 rfl rfl (hon 12 (by kernel_rfl)) rfl
     replace ha := Aside0.mk ha
     have HB := Aside0.mk Q_HB
     have HO451 := Aside0.mk (Q_HO451 (hon 8 (by kernel_rfl)))
     have HA_HO451 := Aside0.mk (Q_HA_HO451 (hon 8 (by kernel_rfl)))
     have HI442 := Aside0.mk (Q_HI442_e14 (hon 14 (by kernel_rfl)))
     refine value_ (w1 := w') (v := .int .i64 (rd y449 t452)) (by rfl) rfl ?_ ?_
     ·go_simp
     refine hK.out _ _ ⟨v450, adz_v450, m11_, (by rw [ha.out]; exact putSel_upk 11 hb_ rfl rfl rfl), fun h0_ => absurd ((hon 1 (by kernel_rfl)).symm.trans h0_) (by decide), Q_HB, fun _ h1_ => absurd ((hon 3 (by kernel_rfl)).symm.trans h1_) (by decide), fun _ h1_ => absurd ((hon 6 (by kernel_rfl)).symm.trans h1_) (by decide), fun _ h1_ => absurd ((hon 10 (by kernel_rfl)).symm.trans h1_) (by decide), Q_HO451, Q_HA_HO451, fun _ h1_ => absurd ((hon 14 (by kernel_rfl)).symm.trans h1_) (by decide), Q_HI442_e14, Q_X11_⟩
    refine steps_cons ?_ ?_
    ·rintro b a w' ⟨v450, adz_v450, m11_, ha, Q_HI442, Q_HB, Q_HI442_e1, Q_HI442_e3, Q_HI442_e6, Q_HO451, Q_HA_HO451, Q_HI442_e10, Q_HI442_e14, Q_X11_⟩ hb_ hon hoff
     refine ⟨_, rfl, fun K hK => ?_⟩
     have e22 : a.tmps[22]? = some (.string t455) := by rw [ha]; exact putSel_on (e := (14, 22, .string t455)) 9 rfl rfl (hon 14 (by kernel_rfl)) rfl
     replace ha := Aside0.mk ha
     have HB := Aside0.mk Q_HB
     have HO451 := Aside0.mk (Q_HO451 (hon 8 (by kernel_rfl)))
     have HA_HO451 := Aside0.mk (Q_HA_HO451 (hon 8 (by kernel_rfl)))
     have HI442 := Aside0.mk (Q_HI442_e14 (hon 14 (by kernel_rfl)))
     refine value_ (w1 := w') (v := .string t455) (by rfl) rfl ?_ ?_
     ·go_simp
     refine hK.out _ _ ⟨v450, adz_v450, m11_, (by rw [ha.out]; exact putSel_upk 12 hb_ rfl rfl rfl), fun h0_ => absurd ((hon 1 (by kernel_rfl)).symm.trans h0_) (by decide), Q_HB, fun _ h1_ => absurd ((hon 3 (by kernel_rfl)).symm.trans h1_) (by decide), fun _ h1_ => absurd ((hon 6 (by kernel_rfl)).symm.trans h1_) (by decide), fun _ h1_ => absurd ((hon 10 (by kernel_rfl)).symm.trans h1_) (by decide), Q_HO451, Q_HA_HO451, fun _ h1_ => absurd ((hon 14 (by kernel_rfl)).symm.trans h1_) (by decide), Q_HI442_e14, Q_X11_⟩
    exact steps_nil
   rintro b a w20 hall ⟨v450, adz_v450, m11_, ha, Q_HI442, Q_HB, Q_HI442_e1, Q_HI442_e3, Q_HI442_e6, Q_HO451, Q_HA_HO451, Q_HI442_e10, Q_HI442_e14, Q_X11_⟩
   clear HB HI442
   have hb1_ := hall 1 (by kernel_rfl)
   have hb3_ := hall 3 (by kernel_rfl)
   have hb4_ := hall 4 (by kernel_rfl)
   have hb6_ := hall 6 (by kernel_rfl)
   have hb7_ := hall 7 (by kernel_rfl)
   have hb8_ := hall 8 (by kernel_rfl)
   have hb10_ := hall 10 (by kernel_rfl)
   have hb11_ := hall 11 (by kernel_rfl)
   have hb12_ := hall 12 (by kernel_rfl)
   have hb14_ := hall 14 (by kernel_rfl)
   have hb15_ := hall 15 (by kernel_rfl)
   have hb16_ := hall 16 (by kernel_rfl)
   have hb17_ := hall 17 (by kernel_rfl)
   subst ha
   obtain rfl := Q_X11_ hb11_
   simp only [putSel, hb1_, hb3_, hb4_, hb6_, hb7_, hb8_, hb10_, hb11_, hb12_, hb14_, hb15_, hb16_, hb17_, if_true, Act.put, List.setIfInBounds_toArray, List.set_cons_zero, List.set_cons_succ]
   clear Q_HI442
   have HB := Aside0.mk Q_HB
   clear Q_HB
   clear Q_HI442_e1
   clear Q_HI442_e3
   clear Q_HI442_e6
   have HO451 := Aside0.mk (Q_HO451 hb8_)
   clear Q_HO451
   have HA_HO451 := Aside0.mk (Q_HA_HO451 hb8_)
   clear Q_HA_HO451
   clear Q_HI442_e10
   have HI442 := Aside0.mk (Q_HI442_e14 hb14_)
   clear Q_HI442_e14
   clear hall hb1_ hb3_ hb4_ hb6_ hb7_ hb8_ hb10_ hb11_ hb12_ hb14_ hb15_ hb16_ hb17_
   obtain ⟨co21, eo21⟩ := HA_HO451.out
   clear HA_HO451
   subst eo21
   try go_wp2
   go_ret3
   exact ⟨by first | rfl | (simp [*, errW_none, errW_some] <;> rfl), HB.out⟩
  ·rw [if_neg c8] at H
   exact absurd H (by simp)
 ·rw [if_neg c7] at H
  exact absurd H (by simp)


def spec_l1Signs.l0 : Nat → ByteArray → List Bool → Int → Option (List Bool × Bool)
 | 0, _, _, _ => none
 | k + 1, x0, x4, x5 => if x5 < (x0.size : Int) then (if 0 ≤ x5 then (if (bt x0 x5) = 48 then (if x4.length < 140737488355328 then (spec_l1Signs.l0 k x0 (x4 ++ [((bt x0 x5) == 49)]) (wrap64 (x5 + 1))) else (none)) else (if (bt x0 x5) = 49 then (if x4.length < 140737488355328 then (spec_l1Signs.l0 k x0 (x4 ++ [true]) (wrap64 (x5 + 1))) else (none)) else (some ((([] : List Bool)), false)))) else (none)) else (some (x4, true))
def spec_l1Signs.f (k : Nat) (a0 : ByteArray) : Option (List Bool × Bool) := spec_l1Signs.l0 k a0 (([] : List Bool)) 0
theorem spec_l1Signs.mono_l : ∀ k, (∀ y0 y1 y2, LeO (spec_l1Signs.l0 k y0 y1 y2) (spec_l1Signs.l0 (k + 1) y0 y1 y2))
 | 0 => fun _ _ _ r h => by simp [spec_l1Signs.l0] at h
 | k + 1 => by
  have ih0 := spec_l1Signs.mono_l k
  ·intro y0 y1 y2
   unfold spec_l1Signs.l0
   repeat' first | (with_reducible exact ih0 _ _ _) | (with_reducible exact LeO.refl _) | (with_reducible refine LeO.ite ?_ ?_)
theorem spec_l1Signs.mono : ∀ a0 k, LeO (spec_l1Signs.f k a0) (spec_l1Signs.f (k + 1) a0) := by
 intro a0 k
 have ih0 := spec_l1Signs.mono_l k
 unfold spec_l1Signs.f
 repeat' (with_reducible exact ih0 _ _ _)
set_option maxHeartbeats 8000000 in
set_option maxRecDepth 100000 in
theorem spec_l1Signs.calls (k : Nat) (a0 : ByteArray) (r1 : List Bool) (r2 : Bool) (w : World) (h : spec_l1Signs.f k a0 = some (r1, r2)) :
  Calls Tryd.prog 77 #[.string a0] w fun e w' => ∃ v0_ : Value, e = .returned (.tuple #[v0_, .bool r2]) ∧ Kd.R Kd.bool 4 w' w.heap.size (fun _ => True) v0_ r1 ∧ Below w.heap.size w w' := by
 have HB := Aside0.mk (Below.refl w.heap.size w)
 have H : (spec_l1Signs.l0 k a0 (([] : List Bool)) 0) = some (r1, r2) := h
 clear h
 obtain ⟨y268, hy268⟩ : ∃ y_ : List Bool, y_ = (([] : List Bool)) := ⟨_, rfl⟩
 replace H : (spec_l1Signs.l0 k a0 y268 0) = some (r1, r2) := by first | (rw [hy268]; with_reducible exact H)
 have Ny268 := Aside0.mk hy268
 clear hy268
 have H' := Aside0.mk H
 clear H
 go_enter Tryd.func77, Tryd.ntmps77
 go_wp2_with (first | ((with_reducible refine gate_dst (N := 6) rfl ?_); refine Kd.R_lit Kd.bool _ 4 ?hg (N := 6) ?hd (xs := ([] : List Bool)) (inner := []) (ok := fun _ => True) (okp := fun _ => True) ?hr ?hp (fun _ hk => hk) trivial (Below.refl _ _) (Nat.le_refl _) (by simp) ?_; (case hd => rfl); (case hg => rfl); (case hr => first | (go_simp; done)); (case hp => exact (Reps.none _ _)); intro v269 w2 ho3 hb hg_ hnew_; clear hg_ hnew_; (rw [← Ny268.out] at ho3); have HO270 := Aside0.mk (Kd.R_lower ho3 (below_size HB.out)); replace HB := Aside0.mk (below_step HB.out hb); clear hb ho3))
 go_loopg [4, 5] k (fun kq v4 v5 w' => ∃ (x4_1 : List Bool) (x5_1 : Int), v5 = .int .i64 x5_1 ∧ Aside0 (spec_l1Signs.l0 kq a0 x4_1 x5_1 = some (r1, r2)) ∧ Aside0 (kq ≤ k) ∧ Aside0 (Kd.R Kd.bool 4 w' w.heap.size (fun _ => True) v4 x4_1) ∧ Aside0 (Below w.heap.size w w'))
 case atStart => exact ⟨(y268), (0), (by rfl), H', ⟨Nat.le_refl _⟩, ⟨by exact HO270.out⟩, ⟨HB.out⟩⟩
 case round =>
  clear H'
  obtain ⟨x4_1, x5_1, rfl, HA, HK1, HO_4, HB⟩ := hrel
  cases gk with
  | zero => exact absurd HA.out (by simp [spec_l1Signs.l0])
  | succ k1 =>
   have H := HA.out
   clear HA
   simp only [spec_l1Signs.l0] at H
   by_cases c4 : x5_1 < (a0.size : Int)
   ·rw [if_pos c4] at H
    have c4b0 : decide (x5_1 < (a0.size : Int)) = true := decide_eq_true c4
    clear c4
    by_cases c5 : 0 ≤ x5_1
    ·rw [if_pos c5] at H
     have c5b0 : decide (0 ≤ x5_1) = true := decide_eq_true c5
     clear c5
     by_cases c7 : (bt a0 x5_1) = 48
     ·rw [if_pos c7] at H
      have c7b0 : ((bt a0 x5_1) == 48) = true := beq_iff_eq.mpr c7
      have c7b1 : ((bt a0 x5_1) != 48) = false := bne_eq_false_iff_eq.mpr c7
      clear c7
      by_cases c9 : x4_1.length < 140737488355328
      ·rw [if_pos c9] at H
       have LMc9 := Aside0.mk c9
       clear c9
       obtain ⟨y271, hy271⟩ : ∃ y_ : List Bool, y_ = (x4_1 ++ [((bt a0 x5_1) == 49)]) := ⟨_, rfl⟩
       replace H : (spec_l1Signs.l0 k1 a0 y271 (wrap64 (x5_1 + 1))) = some (r1, r2) := by first | (rw [hy271]; with_reducible exact H)
       have Ny271 := Aside0.mk hy271
       clear hy271
       have H' := Aside0.mk H
       clear H
       have p6 : 0 ≤ (x5_1 : Int) := of_decide_eq_true (by (with_reducible assumption))
       have q6 : x5_1 < (a0.size : Int) := of_decide_eq_true (by (with_reducible assumption))
       have hx6 := bt_at a0 x5_1
       replace p6 := eq_true p6
       replace q6 := eq_true q6
       have p8 : 0 ≤ (x5_1 : Int) := of_decide_eq_true (by (with_reducible assumption))
       have q8 : x5_1 < (a0.size : Int) := of_decide_eq_true (by (with_reducible assumption))
       have hx8 := bt_at a0 x5_1
       replace p8 := eq_true p8
       replace q8 := eq_true q8
       go_wp2_with (first | ((with_reducible refine gate_builtin (b := .append) (xs := #[.tmp 24, .tmp 29]) rfl ?_); at_builtin; refine Kd.R_append Kd.bool (w0 := w) w.heap.size rfl (.tmp 24) (.tmp 29) 47 4 (.bool false) 1 rfl Tryd.underlying47 info4 rfl (by decide) (by omega) u4 x4_1 ((bt a0 x5_1) == 49) [.bool ((bt a0 x5_1) == 49)] (fun _ => True) (fun _ => False) rfl rfl ?aP (fun _ hk => hk.elim) ?aF ?aO ?aB ?aS ?aL ?_; (case aP => exact rfl); (case aB => exact HB.out); (case aF => exact (fun _ _ => trivial)); (case aO => exact HO_4.out); (case aS => exact (below_size HB.out)); (case aL => have := LMc9.out; omega); intro v272 w10 ho hb hg hat; rw [← Ny271.out] at ho; replace HB := Aside0.mk hb; have HO273 := Aside0.mk ho; clear HO_4; clear ho hb hg hat))
       go_roundg k1
       case measure => have := HK1.out; omega
       case rel => exact ⟨(y271), (wrap64 (x5_1 + 1)), (by rfl), H', ⟨by have := HK1.out; omega⟩, ⟨by exact HO273.out⟩, ⟨HB.out⟩⟩
      ·rw [if_neg c9] at H
       exact absurd H (by simp)
     ·rw [if_neg c7] at H
      have c7b0 : ((bt a0 x5_1) == 48) = false := beq_eq_false_iff_ne.mpr c7
      have c7b1 : ((bt a0 x5_1) != 48) = true := bne_iff_ne.mpr c7
      by_cases c12 : (bt a0 x5_1) = 49
      ·rw [if_pos c12] at H
       have c12b0 : ((bt a0 x5_1) == 49) = true := beq_iff_eq.mpr c12
       have c12b1 : ((bt a0 x5_1) != 49) = false := bne_eq_false_iff_eq.mpr c12
       clear c12
       by_cases c14 : x4_1.length < 140737488355328
       ·rw [if_pos c14] at H
        have LMc14 := Aside0.mk c14
        clear c14
        obtain ⟨y274, hy274⟩ : ∃ y_ : List Bool, y_ = (x4_1 ++ [true]) := ⟨_, rfl⟩
        replace H : (spec_l1Signs.l0 k1 a0 y274 (wrap64 (x5_1 + 1))) = some (r1, r2) := by first | (rw [hy274]; with_reducible exact H)
        have Ny274 := Aside0.mk hy274
        clear hy274
        have H' := Aside0.mk H
        clear H
        have p6 : 0 ≤ (x5_1 : Int) := of_decide_eq_true (by (with_reducible assumption))
        have q6 : x5_1 < (a0.size : Int) := of_decide_eq_true (by (with_reducible assumption))
        have hx6 := bt_at a0 x5_1
        replace p6 := eq_true p6
        replace q6 := eq_true q6
        have p11 : 0 ≤ (x5_1 : Int) := of_decide_eq_true (by (with_reducible assumption))
        have q11 : x5_1 < (a0.size : Int) := of_decide_eq_true (by (with_reducible assumption))
        have hx11 := bt_at a0 x5_1
        replace p11 := eq_true p11
        replace q11 := eq_true q11
        have p13 : 0 ≤ (x5_1 : Int) := of_decide_eq_true (by (with_reducible assumption))
        have q13 : x5_1 < (a0.size : Int) := of_decide_eq_true (by (with_reducible assumption))
        have hx13 := bt_at a0 x5_1
        replace p13 := eq_true p13
        replace q13 := eq_true q13
        go_wp2_with (first | ((with_reducible refine gate_builtin (b := .append) (xs := #[.tmp 24, .tmp 29]) rfl ?_); at_builtin; refine Kd.R_append Kd.bool (w0 := w) w.heap.size rfl (.tmp 24) (.tmp 29) 47 4 (.bool false) 1 rfl Tryd.underlying47 info4 rfl (by decide) (by omega) u4 x4_1 true [.bool true] (fun _ => True) (fun _ => False) rfl rfl ?aP (fun _ hk => hk.elim) ?aF ?aO ?aB ?aS ?aL ?_; (case aP => exact rfl); (case aB => exact HB.out); (case aF => exact (fun _ _ => trivial)); (case aO => exact HO_4.out); (case aS => exact (below_size HB.out)); (case aL => have := LMc14.out; omega); intro v275 w15 ho hb hg hat; rw [← Ny274.out] at ho; replace HB := Aside0.mk hb; have HO276 := Aside0.mk ho; clear HO_4; clear ho hb hg hat))
        go_roundg k1
        case measure => have := HK1.out; omega
        case rel => exact ⟨(y274), (wrap64 (x5_1 + 1)), (by rfl), H', ⟨by have := HK1.out; omega⟩, ⟨by exact HO276.out⟩, ⟨HB.out⟩⟩
       ·rw [if_neg c14] at H
        exact absurd H (by simp)
      ·rw [if_neg c12] at H
       have c12b0 : ((bt a0 x5_1) == 49) = false := beq_eq_false_iff_ne.mpr c12
       have c12b1 : ((bt a0 x5_1) != 49) = true := bne_iff_ne.mpr c12
       obtain ⟨y277, hy277⟩ : ∃ y_ : List Bool, y_ = (([] : List Bool)) := ⟨_, rfl⟩
       replace H : (some (y277, false)) = some (r1, r2) := by first | (rw [hy277]; with_reducible exact H)
       have Ny277 := Aside0.mk hy277
       clear hy277
       simp only [Option.some.injEq, Prod.mk.injEq] at H
       obtain ⟨rfl, rfl⟩ := H
       have p6 : 0 ≤ (x5_1 : Int) := of_decide_eq_true (by (with_reducible assumption))
       have q6 : x5_1 < (a0.size : Int) := of_decide_eq_true (by (with_reducible assumption))
       have hx6 := bt_at a0 x5_1
       replace p6 := eq_true p6
       replace q6 := eq_true q6
       have p11 : 0 ≤ (x5_1 : Int) := of_decide_eq_true (by (with_reducible assumption))
       have q11 : x5_1 < (a0.size : Int) := of_decide_eq_true (by (with_reducible assumption))
       have hx11 := bt_at a0 x5_1
       replace p11 := eq_true p11
       replace q11 := eq_true q11
       go_wp2_with (first | ((with_reducible refine gate_dst (N := 23) rfl ?_); refine Kd.R_lit Kd.bool _ 4 ?hg (N := 23) ?hd (xs := ([] : List Bool)) (inner := []) (ok := fun _ => True) (okp := fun _ => True) ?hr ?hp (fun _ hk => hk) trivial (Below.refl _ _) (Nat.le_refl _) (by simp) ?_; (case hd => rfl); (case hg => rfl); (case hr => first | (go_simp; done)); (case hp => exact (Reps.none _ _)); intro v278 w16 ho17 hb hg_ hnew_; clear hg_ hnew_; (rw [← Ny277.out] at ho17); have HO279 := Aside0.mk (Kd.R_lower (Kd.R_new' ho17 (Kd.R_lt HO_4.out)) (below_size HB.out)); replace HO_4 := Aside0.mk (Kd.R_elder' HO_4.out (Kd.R_base ho17) hb); replace HB := Aside0.mk (below_step HB.out hb); clear hb ho17))
       go_ret2
       exact ⟨_, by first | rfl | (simp [*, errW_none, errW_some] <;> rfl), by exact Kd.R_mono HO279.out (fun _ hk => trivial), HB.out⟩
    ·rw [if_neg c5] at H
     exact absurd H (by simp)
   ·rw [if_neg c4] at H
    have c4b0 : decide (x5_1 < (a0.size : Int)) = false := decide_eq_false c4
    clear c4
    simp only [Option.some.injEq, Prod.mk.injEq] at H
    obtain ⟨rfl, rfl⟩ := H
    go_wp2
    go_ret2
    exact ⟨_, by first | rfl | (simp [*, errW_none, errW_some] <;> rfl), by exact HO_4.out, HB.out⟩

end Go.Proofs.YtinjblbfaijhdaaDoor.Q
