/- The program's TermSame returns what the reference's returns, for all arguments; no condition beyond the statement's own. -/
import Derived.Test.YtedhckahjinieaaCFnExactTermSame7
namespace Go.Proofs.Ytedhckahjinieaa.Q
open Go.RowKit Go.Proofs.YtedhckahjinieaaW.PrintWords Go.Proofs.YtedhckahjinieaaW.PrintLast Go.Proofs.YtedhckahjinieaaW.PrintMore
attribute [local go_sem] max2_int min2_int max_two min_two max_three min_three max_four min_four   -- for this text's walks alone
set_option linter.unusedVariables false
set_option linter.unusedSimpArgs false
theorem impl_made.goesV_ {P : Program} {ops : Array Oper} {Q : Exit → Act → World → Prop} {oi : Oper} {N : Option Tmp} {a : Act} {w : World} {K : Act → World → Prop} {c : Operand} {g : FuncId} {lb : Array Value} (eg : ∀ args w, (callFunc g args).run P w = .ok (.enter g args) w) {ars : Array Operand} {ts : Array TypeId} (args : Array Value)
  (hw : Region.wanted oi (yielded ops a.tmps) = true) (hN : oi.dst = N) (hop : oi.op = .call { callee := .value c, args := ars, argTypes := ts }) (hc : a.eval c = .func (.func g) #[] lb) (hargs : ars.map a.eval = args)
  (h : Calls P g (args ++ lb) w fun e w' => ∃ v, e = .returned v ∧ K (a.put N v) w') : if Region.wanted oi (yielded ops a.tmps) = true then Oper.wp P oi a w K Q else K (a.put N undef) w := by
 refine call_ g (args ++ lb) hw hN ?_ h
 have he := eg (args ++ lb) w
 unfold execOp
 simp [hop, hc, resolve, Deferred.ofValue, invoke, hargs, he]
mutual
def impl_made.l0 (p_ : Int → Option Bool) : Nat → Int → Int → Int → Int → List Bool → Option (ByteArray × Bool)
 | 0, _, _, _, _, _ => none
 | k + 1, x0, x1, x11, x12, x306000 => if x12 < x11 then ((p_ x12).bind fun t306 => (if x306000.length < 140737488355328 then (impl_made.l0 p_ k x0 x1 x11 (wrap64 (x12 + 1)) (x306000 ++ [t306])) else (none))) else (impl_made.l1 p_ k x0 x1 0 x306000 ([] : List Bool))
def impl_made.l1 (p_ : Int → Option Bool) : Nat → Int → Int → Int → List Bool → List Bool → Option (ByteArray × Bool)
 | 0, _, _, _, _, _ => none
 | k + 1, x0, x24, x25, x306000, x306001 => if x25 < x24 then ((p_ (wrap64 (x0 + x25))).bind fun t310 => (if x306001.length < 140737488355328 then (impl_made.l1 p_ k x0 x24 (wrap64 (x25 + 1)) x306000 (x306001 ++ [t310])) else (none))) else ((impl_set_tidy.f k x306000 x306001).bind fun bt314 => ((impl_set_text.f k bt314.1 bt314.2).bind fun bt320 => (some (bt320.1, bt320.2))))
end
def impl_made.f (k : Nat) (a0 : Int) (a1 : Int) (p_ : Int → Option Bool) : Option (ByteArray × Bool) := impl_made.l0 p_ k a0 a1 a0 0 ([] : List Bool)
theorem impl_made.mono_l (p_ q_ : Int → Option Bool) (hp_ : ∀ n, LeO (p_ n) (q_ n)) : ∀ k, (∀ y0 y1 y2 y3 y4, LeO (impl_made.l0 p_ k y0 y1 y2 y3 y4) (impl_made.l0 q_ (k + 1) y0 y1 y2 y3 y4)) ∧ (∀ y0 y1 y2 y3 y4, LeO (impl_made.l1 p_ k y0 y1 y2 y3 y4) (impl_made.l1 q_ (k + 1) y0 y1 y2 y3 y4))
 | 0 => ⟨fun _ _ _ _ _ r h => by simp [impl_made.l0] at h, fun _ _ _ _ _ r h => by simp [impl_made.l1] at h⟩
 | k + 1 => by
  obtain ⟨ih0, ih1⟩ := impl_made.mono_l p_ q_ hp_ k
  refine ⟨?_, ?_⟩
  ·intro y0 y1 y2 y3 y4
   unfold impl_made.l0
   repeat' first
   |(with_reducible exact hp_ _)
   |(with_reducible exact ih0 _ _ _ _ _)
   |(with_reducible exact ih1 _ _ _ _ _)
   |(with_reducible exact impl_set_text.mono _ _ _)
   |(with_reducible exact impl_set_tidy.mono _ _ _)
   |(with_reducible exact LeO.refl _)
   |(with_reducible exact LeO.none _)
   |(with_reducible refine LeO.ite ?_ ?_)
   |(with_reducible refine LeO.bind ?_ (fun _ => ?_))
   |exact ih0 _ _ _ _ _
   |exact ih1 _ _ _ _ _
   |exact impl_set_text.mono _ _ _
   |exact impl_set_tidy.mono _ _ _
   |exact LeO.none _
   |refine LeO.ite ?_ ?_
   |refine LeO.bind ?_ (fun _ => ?_)
  ·intro y0 y1 y2 y3 y4
   unfold impl_made.l1
   repeat' first
   |(with_reducible exact hp_ _)
   |(with_reducible exact ih0 _ _ _ _ _)
   |(with_reducible exact ih1 _ _ _ _ _)
   |(with_reducible exact impl_set_text.mono _ _ _)
   |(with_reducible exact impl_set_tidy.mono _ _ _)
   |(with_reducible exact LeO.refl _)
   |(with_reducible exact LeO.none _)
   |(with_reducible refine LeO.ite ?_ ?_)
   |(with_reducible refine LeO.bind ?_ (fun _ => ?_))
   |exact ih0 _ _ _ _ _
   |exact ih1 _ _ _ _ _
   |exact impl_set_text.mono _ _ _
   |exact impl_set_tidy.mono _ _ _
   |exact LeO.none _
   |refine LeO.ite ?_ ?_
   |refine LeO.bind ?_ (fun _ => ?_)
theorem impl_made.mono (p_ q_ : Int → Option Bool) (hp_ : ∀ n, LeO (p_ n) (q_ n)) : ∀ a0 a1 k, LeO (impl_made.f k a0 a1 p_) (impl_made.f (k + 1) a0 a1 q_) := by
 intro a0 a1 k
 obtain ⟨ih0, ih1⟩ := impl_made.mono_l p_ q_ hp_ k
 unfold impl_made.f
 repeat' first
 |(with_reducible exact hp_ _)
   |(with_reducible exact ih0 _ _ _ _ _)
   |(with_reducible exact ih1 _ _ _ _ _)
   |(with_reducible exact impl_set_text.mono _ _ _)
   |(with_reducible exact impl_set_tidy.mono _ _ _)
   |(with_reducible exact LeO.refl _)
   |(with_reducible exact LeO.none _)
   |(with_reducible refine LeO.ite ?_ ?_)
   |(with_reducible refine LeO.bind ?_ (fun _ => ?_))
   |exact ih0 _ _ _ _ _
   |exact ih1 _ _ _ _ _
   |exact impl_set_text.mono _ _ _
   |exact impl_set_tidy.mono _ _ _
   |exact LeO.none _
   |refine LeO.ite ?_ ?_
   |refine LeO.bind ?_ (fun _ => ?_)
def impl_made.T5 : Bool × List (List Nat × List Nat) := (true, [([], []), ([0], [0]), ([], []), ([], []), ([2, 3], [2, 3]), ([4], [4]), ([1, 5, 4], [1, 5]), ([0, 1, 2, 3, 4, 5, 6], []), ([7, 6, 6, 0, 1, 2, 3, 4, 5, 6], [6, 7])])
def impl_made.B5 : List Nat := [0, 1, 0, 0, 12, 28, 63, 127, 255]
theorem impl_made.tab5 : rtab .any (opsOf Try.f67 5) = impl_made.T5 := by kernel_rfl
theorem impl_made.bits5 : waitsOk impl_made.T5.2 impl_made.B5 = true := by kernel_rfl
def impl_made.T10 : Bool × List (List Nat × List Nat) := (true, [([], []), ([0], [0]), ([], []), ([], []), ([], []), ([3, 4], [3, 4]), ([2, 5], [2, 5]), ([6], [6]), ([1, 7, 6], [1, 7]), ([0, 1, 2, 3, 4, 5, 6, 7, 8], []), ([9, 8, 8, 0, 1, 2, 3, 4, 5, 6, 7, 8], [8, 9])])
def impl_made.B10 : List Nat := [0, 1, 0, 0, 0, 24, 60, 124, 255, 511, 1023]
theorem impl_made.tab10 : rtab .any (opsOf Try.f67 10) = impl_made.T10 := by kernel_rfl
theorem impl_made.bits10 : waitsOk impl_made.T10.2 impl_made.B10 = true := by kernel_rfl
set_option maxHeartbeats 8000000 in
set_option maxRecDepth 100000 in
theorem impl_made.calls (k : Nat) (a0 : Int) (a1 : Int) (p_ : Int → Option Bool) (g_ : Nat) (lb_ : Array Value) (r1 : ByteArray) (r2 : Bool) (w : World) (eg_ : ∀ args w, (callFunc g_ args).run Try.prog w = .ok (.enter g_ args) w) (hp_ : ∀ (n : Int) (b : Bool) (W : World), Below w.heap.size w W → p_ n = some b → Calls Try.prog g_ (#[.int .i64 n] ++ lb_) W fun e W' => e = .returned (.bool b) ∧ Below W.heap.size W W') (h : impl_made.f k a0 a1 p_ = some (r1, r2)) :
  Calls Try.prog 67 #[.int .i64 a0, .int .i64 a1, .func (.func g_) #[] lb_] w fun e w' => e = .returned (.tuple #[.string r1, .bool r2]) ∧ Below w.heap.size w w' := by
 have hu56 := Try.underlying56
 have HB := aM (Below.refl w.heap.size w)
 have H : (impl_made.l0 p_ k a0 a1 a0 0 ([] : List Bool)) = some (r1, r2) := h
 clear h
 have H' := aM H
 clear H
 go_enter Try.func67, Try.ntmps67
 go_wp2_with (first | ((with_reducible refine gate_dst (N := 8) rfl ?_); refine box_event ?hg (N := 8) ?hd (cs := #[.slice none 0 0, .slice none 0 0]) (t := 56) ?hr ?_; (case hd => rfl); (case hg => rfl); (case hr => first | (go_simp; done) | (go_simp; rfl)); intro gb305 hg w4 hbox hb; have BK305 := aM hbox; have GW305 := aM ((by rw [hg]; exact (below_size (by repeat (first | (with_reducible first | exact HB.out | apply bA | apply bN | apply b1) | exact HB.out))) : w.heap.size ≤ gb305)); have GE305 := aM ((by rw [hg]; exact (below_size (by repeat (first | (with_reducible first | exact HB.out | apply bA | apply bN | apply b1) | exact HB.out))) : w.heap.size ≤ gb305)); replace HB := aM (below_step (by repeat (first | (with_reducible first | exact HB.out | apply bA | apply bN | apply b1) | exact HB.out)) hb); clear hb hbox hg))
 go_loopg [12] k (fun kq v12 w' => ∃ (x12_1 : Int) (x306000_1 : List Bool) (u306000 : Value), v12 = .int .i64 x12_1 ∧ Aside0 (impl_made.l0 p_ kq a0 a1 a0 x12_1 x306000_1 = some (r1, r2)) ∧ Aside0 (kq ≤ k) ∧ Aside0 (Kd.R Kd.bool 4 w' w.heap.size (fun _ => True) u306000 x306000_1) ∧ Aside0 (w'.heap[gb305]? = some (.cells #[u306000, (.slice none 0 0)] 56 (0, 0))) ∧ Aside0 (Below w.heap.size w w'))
 case atStart => exact ⟨(0), (([] : List Bool)), (.slice none 0 0), (by first | rfl | (simp; done) | (simp [*]; done) | (simp [Int.tmod_eq_emod_of_nonneg]; done)), H', ⟨Nat.le_refl _⟩, ⟨by first | exact Kd.R_nil _ _ _ _ _ | exact Kd.N_nil _ _ _ _ _ | exact Kd.V_nil _ _ _ _ _ | exact Kd.Q_nil _ _ _ _ _ | exact Kd.S_nil _ _ _ _ _⟩, ⟨by (with_reducible repeat (first | refine kN ?_ _ | refine kD ?_ | refine kA ?_ _)); exact BK305.out⟩, ⟨by repeat (first | (with_reducible first | exact HB.out | apply bA | apply bN | apply b1 | refine bS ?_ GE305.out) | exact HB.out)⟩⟩
 case round =>
  clear H'
  try clear p2
  obtain ⟨x12_1, x306000_1, u306000, rfl, HA, HK1, HO_306000, BK305, HB⟩ := hrel
  cases gk with
  | zero => exact absurd HA.out (by simp [impl_made.l0])
  | succ k1 =>
   have H := HA.out
   clear HA
   simp only [impl_made.l0] at H
   by_cases c5 : x12_1 < a0
   ·rw [if_pos c5] at H
    have c5b0 : decide (x12_1 < a0) = true := decide_eq_true c5
    clear c5
    replace H := Option.bind_eq_some_iff.mp H
    obtain ⟨t306, A60, H⟩ := H
    replace H : (if x306000_1.length < 140737488355328 then (impl_made.l0 p_ k1 a0 a1 a0 (wrap64 (x12_1 + 1)) (x306000_1 ++ [t306])) else (none)) = some (r1, r2) := H
    have A6 := aM A60
    clear A60
    by_cases c7 : x306000_1.length < 140737488355328
    ·rw [if_pos c7] at H
     have LMc7 := aM c7
     clear c7
     obtain ⟨y307, hy307⟩ : ∃ y_ : List Bool, y_ = (x306000_1 ++ [t306]) := ⟨_, rfl⟩
     replace H : (impl_made.l0 p_ k1 a0 a1 a0 (wrap64 (x12_1 + 1)) y307) = some (r1, r2) := by first | (rw [hy307]; with_reducible exact H) | (have H2_ := (Option.bind_some _ _).symm.trans H; rw [hy307]; with_reducible exact H2_) | (have H2_ := (Option.bind_some _ _).symm.trans H; with_reducible exact H2_) | with_reducible exact H | (rw [hy307]; exact H) | exact H
     have Ny307 := aM hy307
     clear hy307
     have H' := aM H
     clear H
     try go_wp2
     replace HO_306000 := aM (rD HO_306000.out)
     replace BK305 := aM (kD BK305.out)
     replace HB := aM (b1 HB.out)
     refine start_ (n := 9) (S := fun w' => w'.cell? ⟨gb305, 0, none⟩ = some (u306000) ∧ w'.cell? ⟨gb305, 1, none⟩ = some (.slice none 0 0)) (ds := [8]) #[false, false, false, false, false, false, false, false, false] (by kernel_rfl) rfl rfl ⟨(blk_cell BK305.out 0).trans rfl, (blk_cell BK305.out 1).trans rfl⟩ (fun hHeld => ?_); refine with_tabW impl_made.tab5 impl_made.bits5 (fun HT_ HW_ => ?_)
     generalize wr.drew = w8 at HO_306000 BK305 HB hHeld ⊢
     refine pure_ (i := 0) (N := some 15) (v := ?_) (a' := ?_) #[true, false, false, false, false, false, false, false, false] rfl rfl (any_of HT_.out (by kernel_rfl)) (fun _ _ _ h => h) (Or.inl ⟨by rfl, ?_⟩) ?_ ?_
     rotate_left
     ·intro w'
      go_simp
      with_reducible rfl
     rotate_left
     ·simp only [Act.put, sA, sZ, sS, i64_w, i32_w]
      rfl
     refine pure_ (i := 2) (N := some 17) (v := ?_) (a' := ?_) #[true, false, true, false, false, false, false, false, false] rfl rfl (any_of HT_.out (by kernel_rfl)) (fun _ _ _ h => h) (Or.inl ⟨by rfl, ?_⟩) ?_ ?_
     rotate_left
     ·intro w'
      go_simp
      with_reducible rfl
     rotate_left
     ·simp only [Act.put, sA, sZ, sS, i64_w, i32_w]
      rfl
     refine pure_ (i := 3) (N := some 18) (v := ?_) (a' := ?_) #[true, false, true, true, false, false, false, false, false] rfl rfl (any_of HT_.out (by kernel_rfl)) (fun _ _ _ h => h) (Or.inl ⟨by rfl, ?_⟩) ?_ ?_
     rotate_left
     ·intro w'
      go_simp
      with_reducible rfl
     rotate_left
     ·simp only [Act.put, sA, sZ, sS, i64_w, i32_w]
      rfl
     refine take_ (i := 1) (N := some 16) (v := ?_) (a' := ?_) #[true, true, true, true, false, false, false, false, false] rfl rfl (take_ofW HT_.out HW_.out (by kernel_rfl)) (fun _ _ _ h => h) (Or.inl ⟨by rfl, ?_⟩) hHeld ?_ ?_
     rotate_left
     ·rintro w' ⟨s0, s1⟩
      go_simp
      with_reducible rfl
     rotate_left
     ·simp only [Act.put, sA, sZ, sS, i64_w, i32_w]
      rfl
     refine one_ (i := 4) (N := some 19) #[true, true, true, true, true, false, false, false, false] rfl rfl (one_of HT_.out (by kernel_rfl)) (by decide) (fun K hK => ?_)
     refine impl_made.goesV_ eg_ #[.int .i64 x12_1] (by rfl) rfl rfl (by rfl) (by (try simp only [List.map_toArray, List.map_cons, List.map_nil]); first | done | rfl | (simp only [List.length_drop, List.length_take]; rfl)) ?_
     refine (hp_ x12_1 t306 _ (by repeat (first | (with_reducible first | exact HB.out | apply bA | apply bN | apply b1) | exact HB.out)) A6.out).mono ?_
     rintro e w9 ⟨rfl, hb⟩
     refine ⟨_, rfl, ?_⟩
     replace HO_306000 := aM (Kd.R_below (by (with_reducible repeat (first | apply rA | apply rN | apply rD)); exact HO_306000.out) hb)
     replace BK305 := aM (blk_below (g := gb305) (o := .cells #[u306000, .slice none 0 0] 56 (0, 0)) (by (with_reducible repeat (first | refine kN ?_ _ | refine kD ?_ | refine kA ?_ _)); exact BK305.out) hb)
     replace HB := aM (below_step (by repeat (first | (with_reducible first | exact HB.out | apply bA | apply bN | apply b1 | refine bS ?_ GE305.out) | exact HB.out)) hb)
     (try clear hb)
     (try clear hb2)
     (try clear hk)
     (try clear hi)
     refine hK.out _ _ ⟨(blk_cell BK305.out 0).trans rfl, (blk_cell BK305.out 1).trans rfl⟩ (fun hHeld => ?_)
     clear hK K
     refine norm_ (a' := ?_) ?_ ?_
     rotate_left
     ·show Act.put _ (some 19) _ = _
      simp only [Act.put, sA, sZ, sS, i64_w, i32_w]
      rfl
     refine one_ (i := 5) (N := some 20) #[true, true, true, true, true, true, false, false, false] rfl rfl (one_of HT_.out (by kernel_rfl)) (by decide) (fun K hK => ?_)
     refine value_ (w1 := ?_) (v := ?_) (by rfl) rfl ?_ ?_
     rotate_left 2
     ·go_simp
      constructor
      ·rfl
      ·rfl
     refine hK.out _ _ ⟨(blk_cell (kA BK305.out _) 0).trans rfl, (blk_cell (kA BK305.out _) 1).trans rfl⟩ (fun hHeld => ?_)
     clear hK K
     refine norm_ (a' := ?_) ?_ ?_
     rotate_left
     ·show Act.put _ (some 20) _ = _
      simp only [Act.put, sA, sZ, sS, i64_w, i32_w]
      rfl
     refine one_ (i := 6) (N := some 21) #[true, true, true, true, true, true, true, false, false] rfl rfl (one_of HT_.out (by kernel_rfl)) (by decide) (fun K hK => ?_)
     refine Kd.R_append_step Kd.bool (w0 := w) w.heap.size (by rfl) (.tmp 16) (.tmp 20) 52 4 (.bool false) 1 rfl Try.underlying52 info4 rfl (by decide) (by omega) u306000 x306000_1 t306 [.bool t306] (fun _ => True) (fun _ => False) rfl rfl ?aP (fun _ hk => hk.elim) ?aF ?aO ?aB ?aS ?aL ?_
     (case aP => exact rfl)
     (case aB => exact (by repeat (first | (with_reducible first | exact HB.out | apply bA | apply bN | apply b1 | refine bS ?_ GE305.out) | exact HB.out)))
     (case aF => exact (fun _ _ => trivial))
     (case aO => exact (by (with_reducible repeat (first | apply rA | apply rN | apply rD)); exact HO_306000.out))
     (case aS => exact (below_size (by repeat (first | (with_reducible first | exact HB.out | apply bA | apply bN | apply b1 | refine bS ?_ GE305.out) | exact HB.out))))
     (case aL => have := LMc7.out; omega)
     intro v308 w10 ho hb hg hat
     rw [← Ny307.out] at ho
     replace BK305 := aM (blk_grown (g := gb305) (o := .cells #[u306000, .slice none 0 0] 56 (0, 0)) (by (with_reducible repeat (first | refine kN ?_ _ | refine kD ?_ | refine kA ?_ _)); exact BK305.out) hg (Kd.R_ne HO_306000.out BK305.out (by decide)))
     replace HB := aM hb
     have HO309 := aM ho
     clear HO_306000
     clear ho hb hg hat
     obtain ⟨Ao11, co11, eo11⟩ := Kd.R_slice HO309.out
     (first | subst eo11 | (injection eo11 with f1_ f2_ f3_; have f4_ := f1_.symm; have f5_ := f3_.symm; clear f1_ f2_ f3_; subst f4_; subst f5_))
     refine hK.out _ _ ⟨(blk_cell BK305.out 0).trans rfl, (blk_cell BK305.out 1).trans rfl⟩ (fun hHeld => ?_)
     clear hK K
     refine norm_ (a' := ?_) ?_ ?_
     rotate_left
     ·show Act.put _ (some 21) _ = _
      simp only [Act.put, sA, sZ, sS, i64_w, i32_w]
      rfl
     refine pure_ (i := 7) (N := some 22) (v := ?_) (a' := ?_) #[true, true, true, true, true, true, true, true, false] rfl rfl (any_of HT_.out (by kernel_rfl)) (fun _ _ _ h => h) (Or.inl ⟨by rfl, ?_⟩) ?_ ?_
     rotate_left
     ·intro w'
      go_simp
      with_reducible rfl
     rotate_left
     ·simp only [Act.put, sA, sZ, sS, i64_w, i32_w]
      rfl
     refine last_ (i := 8) (N := none) #[true, true, true, true, true, true, true, true, true] rfl rfl (one_of HT_.out (by kernel_rfl)) (by decide) (fun K hK => ?_)
     have hs12 : w10.cell? ⟨gb305, 0, none⟩ = some (u306000) := (blk_cell BK305.out 0).trans rfl
     have hfs12 := blk_frozen BK305.out 0
     refine skip_ (w1 := ?_) (by rfl) rfl ?_ ?_
     rotate_left
     ·go_simp
      rfl
     refine hK.out _ _ ?_
     clear hK K
     refine done_ (done_of HT_.out (by kernel_rfl)) ?_
     try go_wp2
     go_roundg k1
     case measure => have := HK1.out; omega
     case rel => exact ⟨(wrap64 (x12_1 + 1)), (y307), (.slice Ao11 y307.length co11), (by first | rfl | (simp; done) | (simp [*]; done) | (simp [Int.tmod_eq_emod_of_nonneg]; done)), H', ⟨by have := HK1.out; omega⟩, ⟨by (with_reducible repeat (first | apply rA | apply rN | apply rD)); exact Kd.R_mono (Kd.R_far (p := ⟨gb305, 0, none⟩) (Kd.R_types HO309.out BK305.out (by decide)) (fun _ hk => hk.2) (.slice Ao11 y307.length co11)) (fun _ hk => trivial)⟩, ⟨by (with_reducible repeat (first | refine kN ?_ _ | refine kD ?_ | refine kA ?_ _)); refine blk_put (cs := #[u306000, .slice none 0 0]) ?_ 0 _ rfl; (with_reducible repeat (first | refine kN ?_ _ | refine kD ?_ | refine kA ?_ _)); exact BK305.out⟩, ⟨by repeat (first | (with_reducible first | exact HB.out | apply bA | apply bN | apply b1 | refine bS ?_ GE305.out) | exact HB.out)⟩⟩
    ·rw [if_neg c7] at H
     exact absurd H (by simp)
   ·rw [if_neg c5] at H
    have c5b0 : decide (x12_1 < a0) = false := decide_eq_false c5
    clear c5
    have H' := aM H
    clear H
    go_wp2
    go_loopg [25] k1 (fun kq v25 w' => ∃ (x25_2 : Int) (x306001_2 : List Bool) (u306001 : Value), v25 = .int .i64 x25_2 ∧ Aside0 (impl_made.l1 p_ kq a0 a1 x25_2 x306000_1 x306001_2 = some (r1, r2)) ∧ Aside0 (kq ≤ k1) ∧ Aside0 (Kd.R Kd.bool 4 w' w.heap.size (fun k_ => some k_ ≠ (u306001 : Value).ownBlock) u306000 x306000_1) ∧ Aside0 (Kd.R Kd.bool 4 w' w.heap.size (fun k_ => some k_ ≠ (u306000 : Value).ownBlock) u306001 x306001_2) ∧ Aside0 (w'.heap[gb305]? = some (.cells #[u306000, u306001] 56 (0, 0))) ∧ Aside0 (Below w.heap.size w w'))
    case atStart => exact ⟨(0), (([] : List Bool)), (.slice none 0 0), (by first | rfl | (simp; done) | (simp [*]; done) | (simp [Int.tmod_eq_emod_of_nonneg]; done)), H', ⟨Nat.le_refl _⟩, ⟨by (with_reducible repeat (first | apply rA | apply rN | apply rD)); exact Kd.R_mono HO_306000.out (fun _ hk => (by simp [Value.ownBlock]))⟩, ⟨by first | exact Kd.R_nil _ _ _ _ _ | exact Kd.N_nil _ _ _ _ _ | exact Kd.V_nil _ _ _ _ _ | exact Kd.Q_nil _ _ _ _ _ | exact Kd.S_nil _ _ _ _ _⟩, ⟨by (with_reducible repeat (first | refine kN ?_ _ | refine kD ?_ | refine kA ?_ _)); exact BK305.out⟩, ⟨by repeat (first | (with_reducible first | exact HB.out | apply bA | apply bN | apply b1 | refine bS ?_ GE305.out) | exact HB.out)⟩⟩
    case round =>
     clear H'
     try clear p2
     try clear c5
     try clear c5b0
     try clear c6
     try clear p6
     try clear c7
     try clear c9
     try clear p2
     obtain ⟨x25_2, x306001_2, u306001, rfl, HA, HK2, HO_306000, HO_306001, BK305, HB⟩ := hrel
     cases gk with
     | zero => exact absurd HA.out (by simp [impl_made.l1])
     | succ k2 =>
      have H := HA.out
      clear HA
      simp only [impl_made.l1] at H
      by_cases c13 : x25_2 < a1
      ·rw [if_pos c13] at H
       have c13b0 : decide (x25_2 < a1) = true := decide_eq_true c13
       clear c13
       replace H := Option.bind_eq_some_iff.mp H
       obtain ⟨t310, A140, H⟩ := H
       replace H : (if x306001_2.length < 140737488355328 then (impl_made.l1 p_ k2 a0 a1 (wrap64 (x25_2 + 1)) x306000_1 (x306001_2 ++ [t310])) else (none)) = some (r1, r2) := H
       have A14 := aM A140
       clear A140
       by_cases c15 : x306001_2.length < 140737488355328
       ·rw [if_pos c15] at H
        have LMc15 := aM c15
        clear c15
        obtain ⟨y311, hy311⟩ : ∃ y_ : List Bool, y_ = (x306001_2 ++ [t310]) := ⟨_, rfl⟩
        replace H : (impl_made.l1 p_ k2 a0 a1 (wrap64 (x25_2 + 1)) x306000_1 y311) = some (r1, r2) := by first | (rw [hy311]; with_reducible exact H) | (have H2_ := (Option.bind_some _ _).symm.trans H; rw [hy311]; with_reducible exact H2_) | (have H2_ := (Option.bind_some _ _).symm.trans H; with_reducible exact H2_) | with_reducible exact H | (rw [hy311]; exact H) | exact H
        have Ny311 := aM hy311
        clear hy311
        have H' := aM H
        clear H
        try go_wp2
        replace HO_306000 := aM (rD HO_306000.out)
        replace HO_306001 := aM (rD HO_306001.out)
        replace BK305 := aM (kD BK305.out)
        replace HB := aM (b1 HB.out)
        refine start_ (n := 11) (S := fun w' => w'.cell? ⟨gb305, 0, none⟩ = some (u306000) ∧ w'.cell? ⟨gb305, 1, none⟩ = some (u306001)) (ds := [10]) #[false, false, false, false, false, false, false, false, false, false, false] (by kernel_rfl) rfl rfl ⟨(blk_cell BK305.out 0).trans rfl, (blk_cell BK305.out 1).trans rfl⟩ (fun hHeld => ?_); refine with_tabW impl_made.tab10 impl_made.bits10 (fun HT_ HW_ => ?_)
        generalize wr.drew = w16 at HO_306000 HO_306001 BK305 HB hHeld ⊢
        refine pure_ (i := 0) (N := some 28) (v := ?_) (a' := ?_) #[true, false, false, false, false, false, false, false, false, false, false] rfl rfl (any_of HT_.out (by kernel_rfl)) (fun _ _ _ h => h) (Or.inl ⟨by rfl, ?_⟩) ?_ ?_
        rotate_left
        ·intro w'
         go_simp
         with_reducible rfl
        rotate_left
        ·simp only [Act.put, sA, sZ, sS, i64_w, i32_w]
         rfl
        refine pure_ (i := 2) (N := some 30) (v := ?_) (a' := ?_) #[true, false, true, false, false, false, false, false, false, false, false] rfl rfl (any_of HT_.out (by kernel_rfl)) (fun _ _ _ h => h) (Or.inl ⟨by rfl, ?_⟩) ?_ ?_
        rotate_left
        ·intro w'
         go_simp
         with_reducible rfl
        rotate_left
        ·simp only [Act.put, sA, sZ, sS, i64_w, i32_w]
         rfl
        refine pure_ (i := 3) (N := some 31) (v := ?_) (a' := ?_) #[true, false, true, true, false, false, false, false, false, false, false] rfl rfl (any_of HT_.out (by kernel_rfl)) (fun _ _ _ h => h) (Or.inl ⟨by rfl, ?_⟩) ?_ ?_
        rotate_left
        ·intro w'
         go_simp
         with_reducible rfl
        rotate_left
        ·simp only [Act.put, sA, sZ, sS, i64_w, i32_w]
         rfl
        refine pure_ (i := 4) (N := some 32) (v := ?_) (a' := ?_) #[true, false, true, true, true, false, false, false, false, false, false] rfl rfl (any_of HT_.out (by kernel_rfl)) (fun _ _ _ h => h) (Or.inl ⟨by rfl, ?_⟩) ?_ ?_
        rotate_left
        ·intro w'
         go_simp
         with_reducible rfl
        rotate_left
        ·simp only [Act.put, sA, sZ, sS, i64_w, i32_w]
         rfl
        refine pure_ (i := 5) (N := some 33) (v := ?_) (a' := ?_) #[true, false, true, true, true, true, false, false, false, false, false] rfl rfl (any_of HT_.out (by kernel_rfl)) (fun _ _ _ h => h) (Or.inl ⟨by rfl, ?_⟩) ?_ ?_
        rotate_left
        ·intro w'
         go_simp
         with_reducible rfl
        rotate_left
        ·simp only [Act.put, sA, sZ, sS, i64_w, i32_w]
         rfl
        refine take_ (i := 1) (N := some 29) (v := ?_) (a' := ?_) #[true, true, true, true, true, true, false, false, false, false, false] rfl rfl (take_ofW HT_.out HW_.out (by kernel_rfl)) (fun _ _ _ h => h) (Or.inl ⟨by rfl, ?_⟩) hHeld ?_ ?_
        rotate_left
        ·rintro w' ⟨s0, s1⟩
         go_simp
         with_reducible rfl
        rotate_left
        ·simp only [Act.put, sA, sZ, sS, i64_w, i32_w]
         rfl
        refine one_ (i := 6) (N := some 34) #[true, true, true, true, true, true, true, false, false, false, false] rfl rfl (one_of HT_.out (by kernel_rfl)) (by decide) (fun K hK => ?_)
        refine impl_made.goesV_ eg_ #[.int .i64 (wrap64 (a0 + x25_2))] (by rfl) rfl rfl (by rfl) (by (try simp only [List.map_toArray, List.map_cons, List.map_nil]); first | done | rfl | (simp only [List.length_drop, List.length_take]; rfl)) ?_
        refine (hp_ (wrap64 (a0 + x25_2)) t310 _ (by repeat (first | (with_reducible first | exact HB.out | apply bA | apply bN | apply b1) | exact HB.out)) A14.out).mono ?_
        rintro e w17 ⟨rfl, hb⟩
        refine ⟨_, rfl, ?_⟩
        replace HO_306000 := aM (Kd.R_below (by (with_reducible repeat (first | apply rA | apply rN | apply rD)); exact HO_306000.out) hb)
        replace HO_306001 := aM (Kd.R_below (by (with_reducible repeat (first | apply rA | apply rN | apply rD)); exact HO_306001.out) hb)
        replace BK305 := aM (blk_below (g := gb305) (o := .cells #[u306000, u306001] 56 (0, 0)) (by (with_reducible repeat (first | refine kN ?_ _ | refine kD ?_ | refine kA ?_ _)); exact BK305.out) hb)
        replace HB := aM (below_step (by repeat (first | (with_reducible first | exact HB.out | apply bA | apply bN | apply b1 | refine bS ?_ GE305.out) | exact HB.out)) hb)
        (try clear hb)
        (try clear hb2)
        (try clear hk)
        (try clear hi)
        refine hK.out _ _ ⟨(blk_cell BK305.out 0).trans rfl, (blk_cell BK305.out 1).trans rfl⟩ (fun hHeld => ?_)
        clear hK K
        refine norm_ (a' := ?_) ?_ ?_
        rotate_left
        ·show Act.put _ (some 34) _ = _
         simp only [Act.put, sA, sZ, sS, i64_w, i32_w]
         rfl
        refine one_ (i := 7) (N := some 35) #[true, true, true, true, true, true, true, true, false, false, false] rfl rfl (one_of HT_.out (by kernel_rfl)) (by decide) (fun K hK => ?_)
        refine value_ (w1 := ?_) (v := ?_) (by rfl) rfl ?_ ?_
        rotate_left 2
        ·go_simp
         constructor
         ·rfl
         ·rfl
        refine hK.out _ _ ⟨(blk_cell (kA BK305.out _) 0).trans rfl, (blk_cell (kA BK305.out _) 1).trans rfl⟩ (fun hHeld => ?_)
        clear hK K
        refine norm_ (a' := ?_) ?_ ?_
        rotate_left
        ·show Act.put _ (some 35) _ = _
         simp only [Act.put, sA, sZ, sS, i64_w, i32_w]
         rfl
        refine one_ (i := 8) (N := some 36) #[true, true, true, true, true, true, true, true, true, false, false] rfl rfl (one_of HT_.out (by kernel_rfl)) (by decide) (fun K hK => ?_)
        refine Kd.R_append_step Kd.bool (w0 := w) w.heap.size (by rfl) (.tmp 29) (.tmp 35) 52 4 (.bool false) 1 rfl Try.underlying52 info4 rfl (by decide) (by omega) u306001 x306001_2 t310 [.bool t310] (fun k_ => some k_ ≠ (u306000 : Value).ownBlock) (fun _ => False) rfl rfl ?aP (fun _ hk => hk.elim) ?aF ?aO ?aB ?aS ?aL ?_
        (case aP => exact rfl)
        (case aB => exact (by repeat (first | (with_reducible first | exact HB.out | apply bA | apply bN | apply b1 | refine bS ?_ GE305.out) | exact HB.out)))
        (case aF => exact (fun k_ hk => Kd.fresh' (Kd.R_lt (by (with_reducible repeat (first | apply rA | apply rN | apply rD)); exact HO_306000.out)) k_ hk))
        (case aO => exact (by (with_reducible repeat (first | apply rA | apply rN | apply rD)); exact HO_306001.out))
        (case aS => exact (below_size (by repeat (first | (with_reducible first | exact HB.out | apply bA | apply bN | apply b1 | refine bS ?_ GE305.out) | exact HB.out))))
        (case aL => have := LMc15.out; omega)
        intro v312 w18 ho hb hg hat
        rw [← Ny311.out] at ho
        replace HO_306000 := aM (Kd.R_after (ok := (fun _ => True)) (by (with_reducible repeat (first | apply rA | apply rN | apply rD)); exact Kd.R_mono HO_306000.out (fun _ hk => ⟨trivial, hk⟩)) hg hat)
        replace BK305 := aM (blk_grown (g := gb305) (o := .cells #[u306000, u306001] 56 (0, 0)) (by (with_reducible repeat (first | refine kN ?_ _ | refine kD ?_ | refine kA ?_ _)); exact BK305.out) hg (Kd.R_ne HO_306001.out BK305.out (by decide)))
        replace HB := aM hb
        have HO313 := aM ho
        clear HO_306001
        clear ho hb hg hat
        obtain ⟨Ao19, co19, eo19⟩ := Kd.R_slice HO313.out
        (first | subst eo19 | (injection eo19 with f1_ f2_ f3_; have f4_ := f1_.symm; have f5_ := f3_.symm; clear f1_ f2_ f3_; subst f4_; subst f5_))
        refine hK.out _ _ ⟨(blk_cell BK305.out 0).trans rfl, (blk_cell BK305.out 1).trans rfl⟩ (fun hHeld => ?_)
        clear hK K
        refine norm_ (a' := ?_) ?_ ?_
        rotate_left
        ·show Act.put _ (some 36) _ = _
         simp only [Act.put, sA, sZ, sS, i64_w, i32_w]
         rfl
        refine pure_ (i := 9) (N := some 37) (v := ?_) (a' := ?_) #[true, true, true, true, true, true, true, true, true, true, false] rfl rfl (any_of HT_.out (by kernel_rfl)) (fun _ _ _ h => h) (Or.inl ⟨by rfl, ?_⟩) ?_ ?_
        rotate_left
        ·intro w'
         go_simp
         with_reducible rfl
        rotate_left
        ·simp only [Act.put, sA, sZ, sS, i64_w, i32_w]
         rfl
        refine last_ (i := 10) (N := none) #[true, true, true, true, true, true, true, true, true, true, true] rfl rfl (one_of HT_.out (by kernel_rfl)) (by decide) (fun K hK => ?_)
        have hs20 : w18.cell? ⟨gb305, 1, none⟩ = some (u306001) := (blk_cell BK305.out 1).trans rfl
        have hfs20 := blk_frozen BK305.out 1
        refine skip_ (w1 := ?_) (by rfl) rfl ?_ ?_
        rotate_left
        ·go_simp
         rfl
        refine hK.out _ _ ?_
        clear hK K
        refine done_ (done_of HT_.out (by kernel_rfl)) ?_
        try go_wp2
        go_roundg k2
        case measure => have := HK1.out; have := HK2.out; omega
        case rel => exact ⟨(wrap64 (x25_2 + 1)), (y311), (.slice Ao19 y311.length co19), (by first | rfl | (simp; done) | (simp [*]; done) | (simp [Int.tmod_eq_emod_of_nonneg]; done)), H', ⟨by have := HK1.out; have := HK2.out; omega⟩, ⟨by (with_reducible repeat (first | apply rA | apply rN | apply rD)); exact Kd.R_mono (Kd.R_far (p := ⟨gb305, 1, none⟩) (Kd.R_types HO_306000.out BK305.out (by decide)) (fun _ hk => hk.2) (.slice Ao19 y311.length co19)) (fun _ hk => hk.1.2)⟩, ⟨by (with_reducible repeat (first | apply rA | apply rN | apply rD)); exact Kd.R_mono (Kd.R_far (p := ⟨gb305, 1, none⟩) (Kd.R_types HO313.out BK305.out (by decide)) (fun _ hk => hk.2) (.slice Ao19 y311.length co19)) (fun _ hk => hk.1)⟩, ⟨by (with_reducible repeat (first | refine kN ?_ _ | refine kD ?_ | refine kA ?_ _)); refine blk_put (cs := #[u306000, u306001]) ?_ 1 _ rfl; (with_reducible repeat (first | refine kN ?_ _ | refine kD ?_ | refine kA ?_ _)); exact BK305.out⟩, ⟨by repeat (first | (with_reducible first | exact HB.out | apply bA | apply bN | apply b1 | refine bS ?_ GE305.out) | exact HB.out)⟩⟩
       ·rw [if_neg c15] at H
        exact absurd H (by simp)
      ·rw [if_neg c13] at H
       have c13b0 : decide (x25_2 < a1) = false := decide_eq_false c13
       clear c13
       replace H := Option.bind_eq_some_iff.mp H
       obtain ⟨⟨t314, t317⟩, A210, H⟩ := H
       replace H : ((impl_set_text.f k2 t314 t317).bind fun bt320 => (some (bt320.1, bt320.2))) = some (r1, r2) := H
       have A21 := aM A210
       clear A210
       replace H := Option.bind_eq_some_iff.mp H
       obtain ⟨⟨t320, t321⟩, A220, H⟩ := H
       replace H : (some (t320, t321)) = some (r1, r2) := H
       have A22 := aM A220
       clear A220
       simp only [Option.some.injEq, Prod.mk.injEq] at H
       obtain ⟨rfl, rfl⟩ := H
       have hcz23_0 : wr.cell? ⟨gb305, 0, none⟩ = some (u306000) := (blk_cell BK305.out 0).trans rfl
       have hcz23_1 : wr.cell? ⟨gb305, 1, none⟩ = some (u306001) := (blk_cell BK305.out 1).trans rfl
       have hfz23_0 := blk_frozen BK305.out 0
       have hfz23_1 := blk_frozen BK305.out 1
       obtain ⟨Ao24, co24, eo24⟩ := Kd.R_slice HO_306000.out
       subst eo24
       obtain ⟨Ao25, co25, eo25⟩ := Kd.R_slice HO_306001.out
       subst eo25
       go_wp2_with (first | ((with_reducible refine gate_callee (f := 59) rfl ?_); refine goesL_ (some 40) rfl rfl Try.func59 (by kernel_rfl) rfl #[.agg #[.slice Ao24 x306000_1.length co24, .slice Ao25 x306001_2.length co25]] rfl (by (try simp only [List.map_toArray, List.map_cons, List.map_nil]); first | done | rfl | (simp only [List.length_drop, List.length_take]; rfl)) ?_; (with_reducible refine (impl_set_tidy.calls k2 _ _ x306000_1 _ _ x306001_2 t314 t317 _ ?side1 ?side2 ?side3 ?side4 A21.out).mono ?_); (case side1 => repeat (first | exact (Kd.R_reads' HO_306000.out).2.2 | (with_reducible refine Kd.C_alloc ?_ _) | (with_reducible refine Kd.C_drewN ?_ _) | (with_reducible refine Kd.C_drew ?_))); (case side2 => exact (Kd.R_reads' HO_306000.out).2.1); (case side3 => repeat (first | exact (Kd.R_reads' HO_306001.out).2.2 | (with_reducible refine Kd.C_alloc ?_ _) | (with_reducible refine Kd.C_drewN ?_ _) | (with_reducible refine Kd.C_drew ?_))); (case side4 => exact (Kd.R_reads' HO_306001.out).2.1); rintro e w26 ⟨v315, v318, rfl, ho0, ho1, hb⟩; refine ⟨_, rfl, ?_⟩; have HO316 := aM (Kd.R_lower (Kd.R_new' (Kd.R_new' ho0 (Kd.R_lt (by (with_reducible repeat (first | apply rA | apply rN | apply rD)); exact HO_306000.out))) (Kd.R_lt (by (with_reducible repeat (first | apply rA | apply rN | apply rD)); exact HO_306001.out))) (below_size (by repeat (first | (with_reducible first | exact HB.out | apply bA | apply bN | apply b1 | refine bS ?_ GE305.out) | exact HB.out)))); have HO319 := aM (Kd.R_lower (Kd.R_new' (Kd.R_new' ho1 (Kd.R_lt (by (with_reducible repeat (first | apply rA | apply rN | apply rD)); exact HO_306000.out))) (Kd.R_lt (by (with_reducible repeat (first | apply rA | apply rN | apply rD)); exact HO_306001.out))) (below_size (by repeat (first | (with_reducible first | exact HB.out | apply bA | apply bN | apply b1 | refine bS ?_ GE305.out) | exact HB.out)))); replace HO_306000 := aM (Kd.R_mono (Kd.R_told (Kd.R_told (Kd.R_old (by (with_reducible repeat (first | apply rA | apply rN | apply rD)); exact HO_306000.out) hb) (Kd.R_base ho0)) (Kd.R_base ho1)) (fun _ h_ => h_.1)); replace HO_306001 := aM (Kd.R_mono (Kd.R_told (Kd.R_told (Kd.R_old (by (with_reducible repeat (first | apply rA | apply rN | apply rD)); exact HO_306001.out) hb) (Kd.R_base ho0)) (Kd.R_base ho1)) (fun _ h_ => h_.1)); replace BK305 := aM (blk_below (g := gb305) (o := .cells #[.slice Ao24 x306000_1.length co24, .slice Ao25 x306001_2.length co25] 56 (0, 0)) (by (with_reducible repeat (first | refine kN ?_ _ | refine kD ?_ | refine kA ?_ _)); exact BK305.out) hb); replace HB := aM (below_step (by repeat (first | (with_reducible first | exact HB.out | apply bA | apply bN | apply b1 | refine bS ?_ GE305.out) | exact HB.out)) hb); (try clear hb); (try clear hb2); (try clear hk); (try clear hi); (try clear ho0); (try clear ho1); obtain ⟨Ao27, co27, eo27⟩ := Kd.R_slice HO316.out; subst eo27; obtain ⟨Ao28, co28, eo28⟩ := Kd.R_slice HO319.out; subst eo28) | ((with_reducible refine gate_callee (f := 37) rfl ?_); refine goesL_ (some 41) rfl rfl Try.func37 (by kernel_rfl) rfl #[.agg #[.slice Ao27 t314.length co27, .slice Ao28 t317.length co28]] rfl (by (try simp only [List.map_toArray, List.map_cons, List.map_nil]); first | done | rfl | (simp only [List.length_drop, List.length_take]; rfl)) ?_; (with_reducible refine (impl_set_text.calls k2 _ _ t314 _ _ t317 t320 t321 _ ?side1 ?side2 ?side3 ?side4 A22.out).mono ?_); (case side1 => repeat (first | exact (Kd.R_reads' HO316.out).2.2 | (with_reducible refine Kd.C_alloc ?_ _) | (with_reducible refine Kd.C_drewN ?_ _) | (with_reducible refine Kd.C_drew ?_))); (case side2 => exact (Kd.R_reads' HO316.out).2.1); (case side3 => repeat (first | exact (Kd.R_reads' HO319.out).2.2 | (with_reducible refine Kd.C_alloc ?_ _) | (with_reducible refine Kd.C_drewN ?_ _) | (with_reducible refine Kd.C_drew ?_))); (case side4 => exact (Kd.R_reads' HO319.out).2.1); rintro e w29 ⟨rfl, hb⟩; refine ⟨_, rfl, ?_⟩; replace HO_306000 := aM (Kd.R_below (by (with_reducible repeat (first | apply rA | apply rN | apply rD)); exact HO_306000.out) hb); replace HO_306001 := aM (Kd.R_below (by (with_reducible repeat (first | apply rA | apply rN | apply rD)); exact HO_306001.out) hb); replace HO316 := aM (Kd.R_below (by (with_reducible repeat (first | apply rA | apply rN | apply rD)); exact HO316.out) hb); replace HO319 := aM (Kd.R_below (by (with_reducible repeat (first | apply rA | apply rN | apply rD)); exact HO319.out) hb); replace BK305 := aM (blk_below (g := gb305) (o := .cells #[.slice Ao24 x306000_1.length co24, .slice Ao25 x306001_2.length co25] 56 (0, 0)) (by (with_reducible repeat (first | refine kN ?_ _ | refine kD ?_ | refine kA ?_ _)); exact BK305.out) hb); replace HB := aM (below_step (by repeat (first | (with_reducible first | exact HB.out | apply bA | apply bN | apply b1 | refine bS ?_ GE305.out) | exact HB.out)) hb); (try clear hb); (try clear hb2); (try clear hk); (try clear hi)))
       go_ret2
       exact ⟨by first | rfl | (simp [errW_none, errW_some] <;> rfl) | (simp [errW_none, errW_some]; exact ⟨rfl, rfl⟩) | (simp [errW_none, errW_some]; exact ⟨rfl, rfl, rfl⟩) | (simp [*, errW_none, errW_some] <;> rfl), by repeat (first | (with_reducible first | exact HB.out | apply bA | apply bN | apply b1 | refine bS ?_ GE305.out) | exact HB.out)⟩


def impl_set_has.f (l0_0 : List Bool) (l0_1 : List Bool) (a1 : Int) : Option (Bool) := if a1 < 0 then (some false) else (if a1 < (l0_0.length : Int) then (if 0 ≤ a1 then (some (rdOf false l0_0 a1)) else (none)) else (if (l0_1.length : Int) = 0 then (none) else (if 0 ≤ (Int.tmod (wrap64 (a1 - (l0_0.length : Int))) (l0_1.length : Int)) then (if (Int.tmod (wrap64 (a1 - (l0_0.length : Int))) (l0_1.length : Int)) < (l0_1.length : Int) then (some (rdOf false l0_1 (Int.tmod (wrap64 (a1 - (l0_0.length : Int))) (l0_1.length : Int)))) else (none)) else (none))))
set_option maxHeartbeats 8000000 in
set_option maxRecDepth 100000 in
theorem impl_set_has.calls (A0_0 : Option Addr) (c0_0 : Nat) (l0_0 : List Bool) (A0_1 : Option Addr) (c0_1 : Nat) (l0_1 : List Bool) (a1 : Int) (r : Bool) (w : World) (hr0_0 : Kd.C Kd.bool w A0_0 l0_0.length l0_0) (hc0_0 : l0_0.length ≤ c0_0) (hr0_1 : Kd.C Kd.bool w A0_1 l0_1.length l0_1) (hc0_1 : l0_1.length ≤ c0_1) (h : impl_set_has.f l0_0 l0_1 a1 = some r) :
  Calls Try.prog 33 #[.agg #[.slice A0_0 l0_0.length c0_0, .slice A0_1 l0_1.length c0_1], .int .i64 a1] w fun e w' => e = .returned (.bool r) ∧ Below w.heap.size w w' := by
 have hu56 := Try.underlying56
 have HR0_0 := aM hr0_0
 have HC0_0 := aM hc0_0
 clear hr0_0 hc0_0
 have HR0_1 := aM hr0_1
 have HC0_1 := aM hc0_1
 clear hr0_1 hc0_1
 have HB := aM (Below.refl w.heap.size w)
 have H : (if a1 < 0 then (some false) else (if a1 < (l0_0.length : Int) then (if 0 ≤ a1 then (some (rdOf false l0_0 a1)) else (none)) else (if (l0_1.length : Int) = 0 then (none) else (if 0 ≤ (Int.tmod (wrap64 (a1 - (l0_0.length : Int))) (l0_1.length : Int)) then (if (Int.tmod (wrap64 (a1 - (l0_0.length : Int))) (l0_1.length : Int)) < (l0_1.length : Int) then (some (rdOf false l0_1 (Int.tmod (wrap64 (a1 - (l0_0.length : Int))) (l0_1.length : Int)))) else (none)) else (none))))) = some r := h
 clear h
 by_cases c3 : a1 < 0
 ·rw [if_pos c3] at H
  have c3b0 : decide (a1 < 0) = true := decide_eq_true c3
  clear c3
  obtain rfl := Option.some.inj H
  go_enter Try.func33, Try.ntmps33
  go_wp2_with (first | ((with_reducible refine gate_dst (N := 2) rfl ?_); refine box_event ?hg (N := 2) ?hd (cs := #[.slice A0_0 l0_0.length c0_0, .slice A0_1 l0_1.length c0_1]) (t := 56) ?hr ?_; (case hd => rfl); (case hg => rfl); (case hr => first | (go_simp; done)); intro gb101 hg w4 hbox hb; have BK101 := aM hbox; have GW101 := aM ((by rw [hg]; exact (below_size HB.out) : w.heap.size ≤ gb101)); have GE101 := aM ((by rw [hg]; exact (below_size HB.out) : w.heap.size ≤ gb101)); replace HB := aM (below_step HB.out hb); clear hb hbox hg))
  repeat (go_quiet (fail); try go_wp2_with (fail))
  go_ret
  exact ⟨by first | rfl | (simp [*, errW_none, errW_some] <;> rfl), HB.out⟩
 ·rw [if_neg c3] at H
  have c3b0 : decide (a1 < 0) = false := decide_eq_false c3
  clear c3
  by_cases c5 : a1 < (l0_0.length : Int)
  ·rw [if_pos c5] at H
   have c5b0 : decide (a1 < (l0_0.length : Int)) = true := decide_eq_true c5
   clear c5
   by_cases c6 : 0 ≤ a1
   ·rw [if_pos c6] at H
    have c6b0 : decide (0 ≤ a1) = true := decide_eq_true c6
    clear c6
    obtain rfl := Option.some.inj H
    go_enter Try.func33, Try.ntmps33
    go_wp2_with (first | ((with_reducible refine gate_dst (N := 2) rfl ?_); refine box_event ?hg (N := 2) ?hd (cs := #[.slice A0_0 l0_0.length c0_0, .slice A0_1 l0_1.length c0_1]) (t := 56) ?hr ?_; (case hd => rfl); (case hg => rfl); (case hr => first | (go_simp; done)); intro gb101 hg w7 hbox hb; have BK101 := aM hbox; have GW101 := aM ((by rw [hg]; exact (below_size HB.out) : w.heap.size ≤ gb101)); have GE101 := aM ((by rw [hg]; exact (below_size HB.out) : w.heap.size ≤ gb101)); replace HB := aM (below_step HB.out hb); clear hb hbox hg; have hcz8_0 : w7.cell? ⟨gb101, 0, none⟩ = some (.slice A0_0 l0_0.length c0_0) := (blk_cell BK101.out 0).trans rfl; have hcz8_1 : w7.cell? ⟨gb101, 1, none⟩ = some (.slice A0_1 l0_1.length c0_1) := (blk_cell BK101.out 1).trans rfl; have hfz8_0 := blk_frozen BK101.out 0; have hfz8_1 := blk_frozen BK101.out 1; have p102 : 0 ≤ (a1 : Int) := of_decide_eq_true (by (with_reducible assumption)); have q102 : a1 < (l0_0.length : Int) := of_decide_eq_true (by (with_reducible assumption)); obtain ⟨ad102, e102, hx102_0⟩ := Kd.at_bool HR0_0.out a1 p102 q102; cases e102; replace hx102_0 := (HB.out.cell (World.block_lt_of_cell? w _ hx102_0)).trans hx102_0; replace p102 := eq_true p102; replace q102 := eq_true q102))
    repeat (go_quiet (fail); try go_wp2_with (fail))
    go_ret
    exact ⟨by first | rfl | (simp [*, errW_none, errW_some] <;> rfl), HB.out⟩
   ·rw [if_neg c6] at H
    exact absurd H (by simp)
  ·rw [if_neg c5] at H
   have c5b0 : decide (a1 < (l0_0.length : Int)) = false := decide_eq_false c5
   clear c5
   by_cases c9 : (l0_1.length : Int) = 0
   ·rw [if_pos c9] at H
    exact absurd H (by simp)
   ·rw [if_neg c9] at H
    have c9b0 : ((l0_1.length : Int) == 0) = false := beq_eq_false_iff_ne.mpr c9
    have c9b1 : ((l0_1.length : Int) != 0) = true := bne_iff_ne.mpr c9
    have c9b2 : ¬ (l0_1 = []) := fun h_ => c9 (by rw [h_]; rfl)
    obtain ⟨ji10, hji10⟩ : ∃ j_ : Int, (Int.tmod (wrap64 (a1 - (l0_0.length : Int))) (l0_1.length : Int)) = j_ := ⟨_, rfl⟩
    replace H : (if 0 ≤ (ji10) then (if (ji10) < (l0_1.length : Int) then (some (rdOf false l0_1 (ji10))) else (none)) else (none)) = some r := by first | (rw [hji10] at H; exact H)
    by_cases c11 : 0 ≤ (ji10)
    ·rw [if_pos c11] at H
     have c11b0 : decide (0 ≤ (ji10)) = true := decide_eq_true c11
     clear c11
     by_cases c12 : (ji10) < (l0_1.length : Int)
     ·rw [if_pos c12] at H
      have c12b0 : decide ((ji10) < (l0_1.length : Int)) = true := decide_eq_true c12
      clear c12
      obtain rfl := Option.some.inj H
      go_enter Try.func33, Try.ntmps33
      go_wp2_with (first | ((with_reducible refine gate_dst (N := 2) rfl ?_); refine box_event ?hg (N := 2) ?hd (cs := #[.slice A0_0 l0_0.length c0_0, .slice A0_1 l0_1.length c0_1]) (t := 56) ?hr ?_; (case hd => rfl); (case hg => rfl); (case hr => first | (go_simp; done)); intro gb101 hg w13 hbox hb; have BK101 := aM hbox; have GW101 := aM ((by rw [hg]; exact (below_size HB.out) : w.heap.size ≤ gb101)); have GE101 := aM ((by rw [hg]; exact (below_size HB.out) : w.heap.size ≤ gb101)); replace HB := aM (below_step HB.out hb); clear hb hbox hg; have hcz14_0 : w13.cell? ⟨gb101, 0, none⟩ = some (.slice A0_0 l0_0.length c0_0) := (blk_cell BK101.out 0).trans rfl; have hcz14_1 : w13.cell? ⟨gb101, 1, none⟩ = some (.slice A0_1 l0_1.length c0_1) := (blk_cell BK101.out 1).trans rfl; have hfz14_0 := blk_frozen BK101.out 0; have hfz14_1 := blk_frozen BK101.out 1; have p103 : 0 ≤ ((ji10) : Int) := of_decide_eq_true (by (with_reducible assumption)); have q103 : (ji10) < (l0_1.length : Int) := of_decide_eq_true (by (with_reducible assumption)); obtain ⟨ad103, e103, hx103_0⟩ := Kd.at_bool HR0_1.out (ji10) p103 q103; cases e103; replace hx103_0 := (HB.out.cell (World.block_lt_of_cell? w _ hx103_0)).trans hx103_0; replace p103 := eq_true p103; replace q103 := eq_true q103))
      repeat (go_quiet (fail); try go_wp2_with (fail))
      go_ret
      exact ⟨by first | rfl | (simp [*, errW_none, errW_some] <;> rfl), by repeat (first | (with_reducible first | exact HB.out | apply bN))⟩
     ·rw [if_neg c12] at H
      exact absurd H (by simp)
    ·rw [if_neg c11] at H
     exact absurd H (by simp)


def impl_set_least.l0 : Nat → Int → List Bool → List Bool → Option (Int)
 | 0, _, _, _ => none
 | k + 1, x3, x323000, x323001 => if x3 ≤ (wrap64 ((x323000.length : Int) + (x323001.length : Int))) then ((impl_set_has.f x323000 x323001 x3).bind fun t323 => (if t323 = true then (some x3) else (impl_set_least.l0 k (wrap64 (x3 + 1)) x323000 x323001))) else (some 0)
def impl_set_least.f (k : Nat) (l0_0 : List Bool) (l0_1 : List Bool) : Option (Int) := impl_set_least.l0 k 1 l0_0 l0_1
theorem impl_set_least.mono_l : ∀ k, (∀ y0 y1 y2, LeO (impl_set_least.l0 k y0 y1 y2) (impl_set_least.l0 (k + 1) y0 y1 y2))
 | 0 => fun _ _ _ r h => by simp [impl_set_least.l0] at h
 | k + 1 => by
  have ih0 := impl_set_least.mono_l k
  ·intro y0 y1 y2
   unfold impl_set_least.l0
   repeat' first | (with_reducible exact ih0 _ _ _) | (with_reducible exact LeO.refl _) | (with_reducible refine LeO.ite ?_ ?_) | (with_reducible refine LeO.bind ?_ (fun _ => ?_))
theorem impl_set_least.mono : ∀ a0 a1 k, LeO (impl_set_least.f k a0 a1) (impl_set_least.f (k + 1) a0 a1) := by
 intro a0 a1 k
 have ih0 := impl_set_least.mono_l k
 unfold impl_set_least.f
 repeat' (with_reducible exact ih0 _ _ _)
set_option maxHeartbeats 8000000 in
set_option maxRecDepth 100000 in
theorem impl_set_least.calls (k : Nat) (A0_0 : Option Addr) (c0_0 : Nat) (l0_0 : List Bool) (A0_1 : Option Addr) (c0_1 : Nat) (l0_1 : List Bool) (r : Int) (w : World) (hr0_0 : Kd.C Kd.bool w A0_0 l0_0.length l0_0) (hc0_0 : l0_0.length ≤ c0_0) (hr0_1 : Kd.C Kd.bool w A0_1 l0_1.length l0_1) (hc0_1 : l0_1.length ≤ c0_1) (h : impl_set_least.f k l0_0 l0_1 = some r) :
  Calls Try.prog 83 #[.agg #[.slice A0_0 l0_0.length c0_0, .slice A0_1 l0_1.length c0_1]] w fun e w' => e = .returned (.int .i64 r) ∧ Below w.heap.size w w' := by
 have hu56 := Try.underlying56
 have HR0_0 := aM hr0_0
 have HC0_0 := aM hc0_0
 clear hr0_0 hc0_0
 have HR0_1 := aM hr0_1
 have HC0_1 := aM hc0_1
 clear hr0_1 hc0_1
 have HB := aM (Below.refl w.heap.size w)
 have H : (impl_set_least.l0 k 1 l0_0 l0_1) = some r := h
 clear h
 have H' := aM H
 clear H
 go_enter Try.func83, Try.ntmps83
 go_wp2_with (first | ((with_reducible refine gate_dst (N := 1) rfl ?_); refine box_event ?hg (N := 1) ?hd (cs := #[.slice A0_0 l0_0.length c0_0, .slice A0_1 l0_1.length c0_1]) (t := 56) ?hr ?_; (case hd => rfl); (case hg => rfl); (case hr => first | (go_simp; done)); intro gb322 hg w2 hbox hb; have BK322 := aM hbox; have GW322 := aM ((by rw [hg]; exact (below_size HB.out) : w.heap.size ≤ gb322)); have GE322 := aM ((by rw [hg]; exact (below_size HB.out) : w.heap.size ≤ gb322)); replace HB := aM (below_step HB.out hb); clear hb hbox hg))
 go_loopg [3] k (fun kq v3 w' => ∃ (x3_1 : Int), v3 = .int .i64 x3_1 ∧ Aside0 (impl_set_least.l0 kq x3_1 l0_0 l0_1 = some r) ∧ Aside0 (kq ≤ k) ∧ Aside0 (w'.heap[gb322]? = some (.cells #[(.slice A0_0 l0_0.length c0_0), (.slice A0_1 l0_1.length c0_1)] 56 (0, 0))) ∧ Aside0 (Below w.heap.size w w'))
 case atStart => exact ⟨(1), (by rfl), H', ⟨Nat.le_refl _⟩, ⟨by exact BK322.out⟩, ⟨HB.out⟩⟩
 case round =>
  clear H'
  obtain ⟨x3_1, rfl, HA, HK1, BK322, HB⟩ := hrel
  cases gk with
  | zero => exact absurd HA.out (by simp [impl_set_least.l0])
  | succ k1 =>
   have H := HA.out
   clear HA
   simp only [impl_set_least.l0] at H
   by_cases c3 : x3_1 ≤ (wrap64 ((l0_0.length : Int) + (l0_1.length : Int)))
   ·rw [if_pos c3] at H
    have c3b0 : decide (x3_1 ≤ (wrap64 ((l0_0.length : Int) + (l0_1.length : Int)))) = true := decide_eq_true c3
    clear c3
    replace H := Option.bind_eq_some_iff.mp H
    obtain ⟨t323, A40, H⟩ := H
    replace H : (if t323 = true then (some x3_1) else (impl_set_least.l0 k1 (wrap64 (x3_1 + 1)) l0_0 l0_1)) = some r := H
    have A4 := aM A40
    clear A40
    by_cases c5 : t323 = true
    all_goals
     first
     |replace c5 := Bool.eq_false_iff.mpr c5
     |skip
     subst c5
     first
     |have H1 : (some x3_1) = some r := by rw [if_pos rfl] at H; exact H
     |have H1 : (impl_set_least.l0 k1 (wrap64 (x3_1 + 1)) l0_0 l0_1) = some r := by rw [if_neg (show ¬ (false = true) by decide)] at H; exact H
     clear H
     have H := H1
     clear H1
     first
     |obtain rfl := Option.some.inj H
     |have H' := aM H
      clear H
     have hcz6_0 : wr.cell? ⟨gb322, 0, none⟩ = some (.slice A0_0 l0_0.length c0_0) := (blk_cell BK322.out 0).trans rfl
     have hcz6_1 : wr.cell? ⟨gb322, 1, none⟩ = some (.slice A0_1 l0_1.length c0_1) := (blk_cell BK322.out 1).trans rfl
     have hfz6_0 := blk_frozen BK322.out 0
     have hfz6_1 := blk_frozen BK322.out 1
     go_wp2_with (first | ((with_reducible refine gate_callee (f := 33) rfl ?_); refine goesL_ (some 17) rfl rfl Try.func33 (by kernel_rfl) rfl #[.agg #[.slice A0_0 l0_0.length c0_0, .slice A0_1 l0_1.length c0_1], .int .i64 x3_1] rfl (by (try simp only [List.map_toArray, List.map_cons, List.map_nil]); rfl) ?_; (with_reducible refine (impl_set_has.calls _ _ l0_0 _ _ l0_1 x3_1 _ _ ?side1 ?side2 ?side3 ?side4 A4.out).mono ?_); (case side1 => repeat (exact (Kd.C_below HR0_0.out HB.out))); (case side2 => exact HC0_0.out); (case side3 => repeat (exact (Kd.C_below HR0_1.out HB.out))); (case side4 => exact HC0_1.out); rintro e w7 ⟨rfl, hb⟩; refine ⟨_, rfl, ?_⟩; replace BK322 := aM (blk_below (g := gb322) (o := .cells #[.slice A0_0 l0_0.length c0_0, .slice A0_1 l0_1.length c0_1] 56 (0, 0)) BK322.out hb); replace HB := aM (below_step HB.out hb); (try clear hb)))
     first
     |go_ret
      exact ⟨by first | rfl | (simp [*, errW_none, errW_some] <;> rfl), HB.out⟩
     |go_roundg k1
      case measure => have := HK1.out; omega
      case rel => exact ⟨(wrap64 (x3_1 + 1)), (by rfl), H', ⟨by have := HK1.out; omega⟩, ⟨by exact BK322.out⟩, ⟨HB.out⟩⟩
   ·rw [if_neg c3] at H
    have c3b0 : decide (x3_1 ≤ (wrap64 ((l0_0.length : Int) + (l0_1.length : Int)))) = false := decide_eq_false c3
    clear c3
    obtain rfl := Option.some.inj H
    have hcz10_0 : wr.cell? ⟨gb322, 0, none⟩ = some (.slice A0_0 l0_0.length c0_0) := (blk_cell BK322.out 0).trans rfl
    have hcz10_1 : wr.cell? ⟨gb322, 1, none⟩ = some (.slice A0_1 l0_1.length c0_1) := (blk_cell BK322.out 1).trans rfl
    have hfz10_0 := blk_frozen BK322.out 0
    have hfz10_1 := blk_frozen BK322.out 1
    go_wp2
    go_ret
    exact ⟨by first | rfl | (simp [*, errW_none, errW_some] <;> rfl), HB.out⟩


mutual
def impl_star.l0 : Nat → List Bool → Int → Int → List Bool → List Bool → Option (List Bool)
 | 0, _, _, _, _, _ => none
 | k + 1, x5, x11, x12, x325000, x325001 => if x12 < x11 then (if 0 ≤ x12 then (if x12 < (x5.length : Int) then (impl_star.l1 k (x5.set (x12 : Int).toNat (x12 == 0)) x12 1 x11 x12 x325000 x325001) else (none)) else (none)) else (some x5)
def impl_star.l1 : Nat → List Bool → Int → Int → Int → Int → List Bool → List Bool → Option (List Bool)
 | 0, _, _, _, _, _, _, _ => none
 | k + 1, x5, x6, x7, x11, x12, x325000, x325001 => if x7 ≤ x6 then (if 0 ≤ x6 then (if x6 < (x5.length : Int) then (if rdOf false x5 x6 = true then (impl_star.l0 k x5 x11 (wrap64 (x12 + 1)) x325000 x325001) else ((impl_set_has.f x325000 x325001 x7).bind fun t330 => (if t330 = true then (if 0 ≤ (wrap64 (x6 - x7)) then (if (wrap64 (x6 - x7)) < (x5.length : Int) then (impl_star.l1 k (x5.set (x6 : Int).toNat (rdOf false x5 (wrap64 (x6 - x7)))) x6 (wrap64 (x7 + 1)) x11 x12 x325000 x325001) else (none)) else (none)) else (impl_star.l1 k (x5.set (x6 : Int).toNat false) x6 (wrap64 (x7 + 1)) x11 x12 x325000 x325001)))) else (none)) else (none)) else (impl_star.l0 k x5 x11 (wrap64 (x12 + 1)) x325000 x325001)
end
def impl_star.f (k : Nat) (l0_0 : List Bool) (l0_1 : List Bool) (a1 : Int) : Option (List Bool) := if 0 ≤ a1 then (if (a1 : Int).toNat ≤ 281474976710656 then ((some (List.replicate (a1 : Int).toNat false : List Bool)).bind fun y325 => (impl_star.l0 k y325 (y325.length : Int) 0 l0_0 l0_1)) else (none)) else (none)
theorem impl_star.mono_l : ∀ k, (∀ y0 y1 y2 y3 y4, LeO (impl_star.l0 k y0 y1 y2 y3 y4) (impl_star.l0 (k + 1) y0 y1 y2 y3 y4)) ∧ (∀ y0 y1 y2 y3 y4 y5 y6, LeO (impl_star.l1 k y0 y1 y2 y3 y4 y5 y6) (impl_star.l1 (k + 1) y0 y1 y2 y3 y4 y5 y6))
 | 0 => ⟨fun _ _ _ _ _ r h => by simp [impl_star.l0] at h, fun _ _ _ _ _ _ _ r h => by simp [impl_star.l1] at h⟩
 | k + 1 => by
  obtain ⟨ih0, ih1⟩ := impl_star.mono_l k
  refine ⟨?_, ?_⟩
  ·intro y0 y1 y2 y3 y4
   unfold impl_star.l0
   repeat' first | (with_reducible exact ih1 _ _ _ _ _ _ _) | (with_reducible exact LeO.refl _) | (with_reducible refine LeO.ite ?_ ?_)
  ·intro y0 y1 y2 y3 y4 y5 y6
   unfold impl_star.l1
   repeat' first | (with_reducible exact ih0 _ _ _ _ _) | (with_reducible exact ih1 _ _ _ _ _ _ _) | (with_reducible exact LeO.refl _) | (with_reducible refine LeO.ite ?_ ?_) | (with_reducible refine LeO.bind ?_ (fun _ => ?_))
theorem impl_star.mono : ∀ a0 a1 a2 k, LeO (impl_star.f k a0 a1 a2) (impl_star.f (k + 1) a0 a1 a2) := by
 intro a0 a1 a2 k
 obtain ⟨ih0, ih1⟩ := impl_star.mono_l k
 unfold impl_star.f
 repeat' first | (with_reducible exact ih0 _ _ _ _ _) | (with_reducible exact LeO.refl _) | (with_reducible refine LeO.ite ?_ ?_) | (with_reducible refine LeO.bind ?_ (fun _ => ?_))
set_option maxHeartbeats 8000000 in
set_option maxRecDepth 100000 in
theorem impl_star.calls (k : Nat) (A0_0 : Option Addr) (c0_0 : Nat) (l0_0 : List Bool) (A0_1 : Option Addr) (c0_1 : Nat) (l0_1 : List Bool) (a1 : Int) (r : List Bool) (w : World) (hr0_0 : Kd.C Kd.bool w A0_0 l0_0.length l0_0) (hc0_0 : l0_0.length ≤ c0_0) (hr0_1 : Kd.C Kd.bool w A0_1 l0_1.length l0_1) (hc0_1 : l0_1.length ≤ c0_1) (h : impl_star.f k l0_0 l0_1 a1 = some r) :
  Calls Try.prog 84 #[.agg #[.slice A0_0 l0_0.length c0_0, .slice A0_1 l0_1.length c0_1], .int .i64 a1] w fun e w' => ∃ v0_ : Value, e = .returned (v0_) ∧ Kd.R Kd.bool 4 w' w.heap.size (fun _ => True) v0_ r ∧ Below w.heap.size w w' := by
 have hu56 := Try.underlying56
 have HR0_0 := aM hr0_0
 have HC0_0 := aM hc0_0
 clear hr0_0 hc0_0
 have HR0_1 := aM hr0_1
 have HC0_1 := aM hc0_1
 clear hr0_1 hc0_1
 have HB := aM (Below.refl w.heap.size w)
 have H : (if 0 ≤ a1 then (if (a1 : Int).toNat ≤ 281474976710656 then ((some (List.replicate (a1 : Int).toNat false : List Bool)).bind fun y325 => (impl_star.l0 k y325 (y325.length : Int) 0 l0_0 l0_1)) else (none)) else (none)) = some r := h
 clear h
 by_cases c3 : 0 ≤ a1
 ·rw [if_pos c3] at H
  have c3b0 := eq_true c3
  have c3b1 : decide (0 ≤ a1) = true := decide_eq_true c3
  clear c3
  by_cases c4 : (a1 : Int).toNat ≤ 281474976710656
  ·rw [if_pos c4] at H
   have c4b0 := eq_true c4
   have c4b1 : decide ((a1 : Int).toNat ≤ 281474976710656) = true := decide_eq_true c4
   clear c4
   obtain ⟨y325, hy325⟩ : ∃ y_ : List Bool, y_ = (List.replicate (a1 : Int).toNat false) := ⟨_, rfl⟩
   replace H : (impl_star.l0 k y325 (y325.length : Int) 0 l0_0 l0_1) = some r := by first | (have H2_ := (Option.bind_some _ _).symm.trans H; rw [hy325]; with_reducible exact H2_)
   have Ny325 := aM hy325
   clear hy325
   have H' := aM H
   clear H
   go_enter Try.func84, Try.ntmps84
   go_wp2_with (first | ((with_reducible refine gate_dst (N := 2) rfl ?_); refine box_event ?hg (N := 2) ?hd (cs := #[.slice A0_0 l0_0.length c0_0, .slice A0_1 l0_1.length c0_1]) (t := 56) ?hr ?_; (case hd => rfl); (case hg => rfl); (case hr => first | (go_simp; done)); intro gb324 hg w5 hbox hb; have BK324 := aM hbox; have GW324 := aM ((by rw [hg]; exact (below_size HB.out) : w.heap.size ≤ gb324)); have GE324 := aM ((by rw [hg]; exact (below_size HB.out) : w.heap.size ≤ gb324)); replace HB := aM (below_step HB.out hb); clear hb hbox hg) | ((with_reducible refine gate_dst (N := 9) rfl ?_); refine Kd.R_make Kd.bool _ 4 rfl (N := 9) rfl 52 _ _ rfl a1 rfl rfl Try.underlying52 (.bool false) 1 info4 rfl (by decide) (by omega) false (ok := fun _ => True) (okp := fun _ => True) rfl (fun _ hk => hk) trivial (of_decide_eq_true (by (with_reducible assumption))) (Nat.le_trans (Nat.mul_le_mul_right _ (of_decide_eq_true (by (with_reducible assumption)) : a1.toNat ≤ 281474976710656)) (by omega)) (Below.refl _ _) (Nat.le_refl _) ?_; intro v326 w6 ho7 hb hg_ hnew_; clear hg_ hnew_; (rw [← Ny325.out] at ho7); have HO327 := aM (Kd.R_lower ho7 (below_size HB.out)); replace BK324 := aM (blk_below (g := gb324) (o := .cells #[.slice A0_0 l0_0.length c0_0, .slice A0_1 l0_1.length c0_1] 56 (0, 0)) BK324.out hb); replace HB := aM (below_step HB.out hb); clear hb ho7; obtain ⟨Ao8, co8, eo8⟩ := Kd.R_slice HO327.out; subst eo8))
   go_loopg [12] k (fun kq v12 w' => ∃ (x5_1 : List Bool) (x12_1 : Int), v12 = .int .i64 x12_1 ∧ Aside0 (impl_star.l0 kq x5_1 (y325.length : Int) x12_1 l0_0 l0_1 = some r) ∧ Aside0 (kq ≤ k) ∧ Aside0 (Kd.R Kd.bool 4 w' w.heap.size (fun _ => True) (.slice Ao8 y325.length co8) x5_1) ∧ Aside0 (w'.heap[gb324]? = some (.cells #[(.slice A0_0 l0_0.length c0_0), (.slice A0_1 l0_1.length c0_1)] 56 (0, 0))) ∧ Aside0 (Below w.heap.size w w'))
   case atStart => exact ⟨(y325), (0), (by rfl), H', ⟨Nat.le_refl _⟩, ⟨by exact HO327.out⟩, ⟨by exact BK324.out⟩, ⟨HB.out⟩⟩
   case round =>
    clear H'
    try clear c3b0
    try clear c3b1
    try clear c4b0
    try clear c4b1
    obtain ⟨x5_1, x12_1, rfl, HA, HK1, HO_5, BK324, HB⟩ := hrel
    have hl5_1 := (Kd.R_reads' HO_5.out).1
    rw [hl5_1] at HO_5
    (try simp only [hl5_1])
    cases gk with
    | zero => exact absurd HA.out (by simp [impl_star.l0])
    | succ k1 =>
     have H := HA.out
     clear HA
     simp only [impl_star.l0] at H
     by_cases c9 : x12_1 < (y325.length : Int)
     ·rw [if_pos c9] at H
      have c9b0 : decide (x12_1 < (y325.length : Int)) = true := decide_eq_true c9
      have c9b0z := c9b0
      (try simp only [hl5_1] at c9b0z)
      clear c9
      by_cases c10 : 0 ≤ x12_1
      ·rw [if_pos c10] at H
       have c10b0 : decide (0 ≤ x12_1) = true := decide_eq_true c10
       clear c10
       by_cases c11 : x12_1 < (x5_1.length : Int)
       ·rw [if_pos c11] at H
        have c11b0 : decide (x12_1 < (x5_1.length : Int)) = true := decide_eq_true c11
        have c11b0z := c11b0
        clear c11
        obtain ⟨y328, hy328⟩ : ∃ y_ : List Bool, y_ = (x5_1.set (x12_1 : Int).toNat (x12_1 == 0)) := ⟨_, rfl⟩
        replace H : (impl_star.l1 k1 y328 x12_1 1 (y325.length : Int) x12_1 l0_0 l0_1) = some r := by first | (rw [hy328]; with_reducible exact H)
        have Ny328 := aM hy328
        clear hy328
        have H' := aM H
        clear H
        have p12 : 0 ≤ (x12_1 : Int) := of_decide_eq_true (by (with_reducible assumption))
        have q12 : (x12_1 : Int) < ((x5_1.length : Int) : Int) := of_decide_eq_true (by (with_reducible assumption))
        obtain ⟨go12, co12, eo12, gb12, gl12, cl12, HG12⟩ := Kd.R_form HO_5.out (by omega)
        (cases eo12)
        have GB12 := aM gb12
        have GG12 := aM HG12
        clear gb12 gl12 HG12
        obtain ⟨hx12_0, hf12_0⟩ := Kd.R_celln false HO_5.out (x12_1 : Int) p12 q12
        replace p12 := eq_true p12
        replace q12 := eq_true q12
        have HP13 := Kd.R_putg HO_5.out (x12_1 : Int) (x12_1 == 0)
        go_wp2_with (first | ((with_reducible refine gate_store (t := 4) (p := 19) rfl ?_); refine store_event (t := 4) (p := 19) (v := ?vo_w14) (w1 := (wr.setCell ⟨go12, (x12_1 : Int).toNat, none⟩ (.bool (x12_1 == 0)))) ?hg ?ho ?hn ?hr ?_; (case ho => rfl); (case hg => rfl); (case hn => rfl); (case hr => first | (go_simp; done)); intro w14 hw; have hg : wr.grownBy w14 (some go12) := (by rw [hw]; exact HP13.2); have hp_ : Kd.R Kd.bool 4 w14 w.heap.size (fun _ => True) (.slice (some ⟨go12, 0, none⟩) x5_1.length co8) y328 := (by rw [hw, Ny328.out]; exact HP13.1); clear HP13; replace BK324 := aM (blk_grown (g := gb324) (o := .cells #[.slice A0_0 l0_0.length c0_0, .slice A0_1 l0_1.length c0_1] 56 (0, 0)) BK324.out hg (Kd.R_ne HO_5.out BK324.out (by decide))); replace HO_5 := aM hp_; replace HB := aM ((by rw [hw]; exact bS (HB.out) GB12.out : Below w.heap.size w w14)); clear hg hw hp_))
        go_loopg [7] k1 (fun kq v7 w' => ∃ (x5_2 : List Bool) (x7_2 : Int), v7 = .int .i64 x7_2 ∧ Aside0 (impl_star.l1 kq x5_2 x12_1 x7_2 (y325.length : Int) x12_1 l0_0 l0_1 = some r) ∧ Aside0 (kq ≤ k1) ∧ Aside0 (Kd.R Kd.bool 4 w' w.heap.size (fun _ => True) (.slice (some ⟨go12, 0, none⟩) x5_1.length co8) x5_2) ∧ Aside0 (w'.heap[gb324]? = some (.cells #[(.slice A0_0 l0_0.length c0_0), (.slice A0_1 l0_1.length c0_1)] 56 (0, 0))) ∧ Aside0 (Below w.heap.size w w'))
        case atStart => exact ⟨(y328), (1), (by rfl), H', ⟨Nat.le_refl _⟩, ⟨by exact HO_5.out⟩, ⟨by exact BK324.out⟩, ⟨HB.out⟩⟩
        case round =>
         clear H'
         try clear c9b0
         try clear c10b0
         try clear c11b0
         try clear p12
         try clear q12
         try clear hx12_0
         obtain ⟨x5_2, x7_2, rfl, HA, HK2, HO_5, BK324, HB⟩ := hrel
         have hl5_2 := (Kd.R_reads' HO_5.out).1
         rw [hl5_2] at HO_5
         (try simp only [hl5_2])
         cases gk with
         | zero => exact absurd HA.out (by simp [impl_star.l1])
         | succ k2 =>
          have H := HA.out
          clear HA
          simp only [impl_star.l1] at H
          by_cases c15 : x7_2 ≤ x12_1
          ·rw [if_pos c15] at H
           have c15b0 : decide (x7_2 ≤ x12_1) = true := decide_eq_true c15
           clear c15
           by_cases c16 : 0 ≤ x12_1
           ·rw [if_pos c16] at H
            have c16b0 : decide (0 ≤ x12_1) = true := decide_eq_true c16
            clear c16
            by_cases c17 : x12_1 < (x5_2.length : Int)
            ·rw [if_pos c17] at H
             have c17b0 : decide (x12_1 < (x5_2.length : Int)) = true := decide_eq_true c17
             have c17b0z := c17b0
             clear c17
             obtain ⟨bq18, hbq18⟩ : ∃ b_ : Bool, b_ = (rdOf false x5_2 x12_1) := ⟨_, rfl⟩
             replace H : (if bq18 = true then (impl_star.l0 k2 x5_2 (y325.length : Int) (wrap64 (x12_1 + 1)) l0_0 l0_1) else ((impl_set_has.f l0_0 l0_1 x7_2).bind fun t330 => (if t330 = true then (if 0 ≤ (wrap64 (x12_1 - x7_2)) then (if (wrap64 (x12_1 - x7_2)) < (x5_2.length : Int) then (impl_star.l1 k2 (x5_2.set (x12_1 : Int).toNat (rdOf false x5_2 (wrap64 (x12_1 - x7_2)))) x12_1 (wrap64 (x7_2 + 1)) (y325.length : Int) x12_1 l0_0 l0_1) else (none)) else (none)) else (impl_star.l1 k2 (x5_2.set (x12_1 : Int).toNat false) x12_1 (wrap64 (x7_2 + 1)) (y325.length : Int) x12_1 l0_0 l0_1)))) = some r := by rw [← hbq18] at H; exact H
             have Nbq18 := aM hbq18
             clear hbq18
             by_cases c19 : bq18 = true
             ·subst c19
              replace H : (impl_star.l0 k2 x5_2 (y325.length : Int) (wrap64 (x12_1 + 1)) l0_0 l0_1) = some r := by rw [if_pos rfl] at H; exact H
              have H' := aM H
              clear H
              have p329 : 0 ≤ (x12_1 : Int) := of_decide_eq_true (by (with_reducible assumption))
              have q329 : x12_1 < (x5_2.length : Int) := of_decide_eq_true (by (with_reducible assumption))
              obtain ⟨ad329, e329, hx329_0⟩ := Kd.at_bool (Kd.R_reads' HO_5.out).2.2 x12_1 p329 q329
              (try rw [← Nbq18.out] at hx329_0)
              obtain rfl : (⟨go12, 0, none⟩ : Addr) = ad329 := (by injection e329)
              (simp only [add_plain] at hx329_0)
              replace p329 := eq_true p329
              replace q329 := eq_true q329
              go_wp2
              (try simp only [← hl5_1, ← hl5_2])
              go_roundg k2
              case measure => have := HK1.out; have := HK2.out; omega
              case rel => exact ⟨(x5_2), (wrap64 (x12_1 + 1)), (by rfl), H', ⟨by have := HK1.out; have := HK2.out; omega⟩, ⟨by (try simp only [hl5_1]); (try simp only [hl5_2]); exact HO_5.out⟩, ⟨by exact BK324.out⟩, ⟨HB.out⟩⟩
             ·replace c19 := Bool.eq_false_iff.mpr c19
              subst c19
              replace H : ((impl_set_has.f l0_0 l0_1 x7_2).bind fun t330 => (if t330 = true then (if 0 ≤ (wrap64 (x12_1 - x7_2)) then (if (wrap64 (x12_1 - x7_2)) < (x5_2.length : Int) then (impl_star.l1 k2 (x5_2.set (x12_1 : Int).toNat (rdOf false x5_2 (wrap64 (x12_1 - x7_2)))) x12_1 (wrap64 (x7_2 + 1)) (y325.length : Int) x12_1 l0_0 l0_1) else (none)) else (none)) else (impl_star.l1 k2 (x5_2.set (x12_1 : Int).toNat false) x12_1 (wrap64 (x7_2 + 1)) (y325.length : Int) x12_1 l0_0 l0_1))) = some r := by rw [if_neg (show ¬ (false = true) by decide)] at H; exact H
              replace H := Option.bind_eq_some_iff.mp H
              obtain ⟨t330, A200, H⟩ := H
              replace H : (if t330 = true then (if 0 ≤ (wrap64 (x12_1 - x7_2)) then (if (wrap64 (x12_1 - x7_2)) < (x5_2.length : Int) then (impl_star.l1 k2 (x5_2.set (x12_1 : Int).toNat (rdOf false x5_2 (wrap64 (x12_1 - x7_2)))) x12_1 (wrap64 (x7_2 + 1)) (y325.length : Int) x12_1 l0_0 l0_1) else (none)) else (none)) else (impl_star.l1 k2 (x5_2.set (x12_1 : Int).toNat false) x12_1 (wrap64 (x7_2 + 1)) (y325.length : Int) x12_1 l0_0 l0_1)) = some r := H
              have A20 := aM A200
              clear A200
              by_cases c21 : t330 = true
              ·subst c21
               replace H : (if 0 ≤ (wrap64 (x12_1 - x7_2)) then (if (wrap64 (x12_1 - x7_2)) < (x5_2.length : Int) then (impl_star.l1 k2 (x5_2.set (x12_1 : Int).toNat (rdOf false x5_2 (wrap64 (x12_1 - x7_2)))) x12_1 (wrap64 (x7_2 + 1)) (y325.length : Int) x12_1 l0_0 l0_1) else (none)) else (none)) = some r := by rw [if_pos rfl] at H; exact H
               obtain ⟨ji22, hji22⟩ : ∃ j_ : Int, (wrap64 (x12_1 - x7_2)) = j_ := ⟨_, rfl⟩
               replace H : (if 0 ≤ (ji22) then (if (ji22) < (x5_2.length : Int) then (impl_star.l1 k2 (x5_2.set (x12_1 : Int).toNat (rdOf false x5_2 (ji22))) x12_1 (wrap64 (x7_2 + 1)) (y325.length : Int) x12_1 l0_0 l0_1) else (none)) else (none)) = some r := by first | (rw [hji22] at H; exact H)
               have hji22w : (IntKind.i64.wrap (x12_1 - x7_2)) = ji22 := (i64_w _).trans hji22
               by_cases c23 : 0 ≤ (ji22)
               ·rw [if_pos c23] at H
                have c23b0 : decide (0 ≤ (ji22)) = true := decide_eq_true c23
                clear c23
                by_cases c24 : (ji22) < (x5_2.length : Int)
                ·rw [if_pos c24] at H
                 have c24b0 : decide ((ji22) < (x5_2.length : Int)) = true := decide_eq_true c24
                 have c24b0z := c24b0
                 clear c24
                 obtain ⟨y332, hy332⟩ : ∃ y_ : List Bool, y_ = (x5_2.set (x12_1 : Int).toNat (rdOf false x5_2 (ji22))) := ⟨_, rfl⟩
                 replace H : (impl_star.l1 k2 y332 x12_1 (wrap64 (x7_2 + 1)) (y325.length : Int) x12_1 l0_0 l0_1) = some r := by first | (rw [hy332]; with_reducible exact H)
                 have Ny332 := aM hy332
                 clear hy332
                 have H' := aM H
                 clear H
                 have p329 : 0 ≤ (x12_1 : Int) := of_decide_eq_true (by (with_reducible assumption))
                 have q329 : x12_1 < (x5_2.length : Int) := of_decide_eq_true (by (with_reducible assumption))
                 obtain ⟨ad329, e329, hx329_0⟩ := Kd.at_bool (Kd.R_reads' HO_5.out).2.2 x12_1 p329 q329
                 (try rw [← Nbq18.out] at hx329_0)
                 obtain rfl : (⟨go12, 0, none⟩ : Addr) = ad329 := (by injection e329)
                 (simp only [add_plain] at hx329_0)
                 replace p329 := eq_true p329
                 replace q329 := eq_true q329
                 have hcz26_0 : wr.cell? ⟨gb324, 0, none⟩ = some (.slice A0_0 l0_0.length c0_0) := (blk_cell BK324.out 0).trans rfl
                 have hcz26_1 : wr.cell? ⟨gb324, 1, none⟩ = some (.slice A0_1 l0_1.length c0_1) := (blk_cell BK324.out 1).trans rfl
                 have hfz26_0 := blk_frozen BK324.out 0
                 have hfz26_1 := blk_frozen BK324.out 1
                 go_wp2_with (first | ((with_reducible refine gate_callee (f := 33) rfl ?_); refine goesL_ (some 36) rfl rfl Try.func33 (by kernel_rfl) rfl #[.agg #[.slice A0_0 l0_0.length c0_0, .slice A0_1 l0_1.length c0_1], .int .i64 x7_2] rfl (by (try simp only [List.map_toArray, List.map_cons, List.map_nil]); rfl) ?_; (with_reducible refine (impl_set_has.calls _ _ l0_0 _ _ l0_1 x7_2 true _ ?side1 ?side2 ?side3 ?side4 A20.out).mono ?_); (case side1 => repeat (exact (Kd.C_below HR0_0.out HB.out))); (case side2 => exact HC0_0.out); (case side3 => repeat (exact (Kd.C_below HR0_1.out HB.out))); (case side4 => exact HC0_1.out); rintro e w27 ⟨rfl, hb⟩; refine ⟨_, rfl, ?_⟩; replace HO_5 := aM (Kd.R_below HO_5.out hb); replace BK324 := aM (blk_below (g := gb324) (o := .cells #[.slice A0_0 l0_0.length c0_0, .slice A0_1 l0_1.length c0_1] 56 (0, 0)) BK324.out hb); replace HB := aM (below_step HB.out hb); (try clear hb); have p331 : 0 ≤ ((ji22) : Int) := of_decide_eq_true (by (with_reducible assumption)); have q331 : (ji22) < (x5_2.length : Int) := of_decide_eq_true (by (with_reducible assumption)); obtain ⟨ad331, e331, hx331_0⟩ := Kd.at_bool (Kd.R_reads' HO_5.out).2.2 (ji22) p331 q331; obtain rfl : (⟨go12, 0, none⟩ : Addr) = ad331 := (by injection e331); (simp only [add_plain] at hx331_0); replace p331 := eq_true p331; replace q331 := eq_true q331; have p25 : 0 ≤ (x12_1 : Int) := of_decide_eq_true (by (with_reducible assumption)); have q25 : (x12_1 : Int) < ((x5_2.length : Int) : Int) := of_decide_eq_true (by (with_reducible assumption)); obtain ⟨hx25_0, hf25_0⟩ := Kd.R_celln false HO_5.out (x12_1 : Int) p25 q25; replace p25 := eq_true p25; replace q25 := eq_true q25; obtain ⟨hy28_, hz28_⟩ := Kd.R_celln false HO_5.out (x12_1 : Int) (of_decide_eq_true (by (with_reducible assumption))) (of_decide_eq_true (by (with_reducible assumption))); have HP28 := Kd.R_putg HO_5.out (x12_1 : Int) (rdOf false x5_2 (ji22))) | ((with_reducible refine gate_store (t := 4) (p := 45) rfl ?_); refine store_event (t := 4) (p := 45) (v := ?vo_w29) (w1 := (w27.setCell ⟨go12, (x12_1 : Int).toNat, none⟩ (.bool (rdOf false x5_2 (ji22))))) ?hg ?ho ?hn ?hr ?_; (case ho => rfl); (case hg => rfl); (case hn => rfl); (case hr => first | (go_simp; done)); intro w29 hw; have hg : w27.grownBy w29 (some go12) := (by rw [hw]; exact HP28.2); have hp_ : Kd.R Kd.bool 4 w29 w.heap.size (fun _ => True) (.slice (some ⟨go12, 0, none⟩) x5_2.length co8) y332 := (by rw [hw, Ny332.out]; exact HP28.1); clear HP28; replace BK324 := aM (blk_grown (g := gb324) (o := .cells #[.slice A0_0 l0_0.length c0_0, .slice A0_1 l0_1.length c0_1] 56 (0, 0)) BK324.out hg (Kd.R_ne HO_5.out BK324.out (by decide))); replace HO_5 := aM hp_; replace HB := aM ((by rw [hw]; exact bS (HB.out) GB12.out : Below w.heap.size w w29)); clear hg hw hp_))
                 (try simp only [← hl5_2])
                 go_roundg k2
                 case measure => have := HK1.out; have := HK2.out; omega
                 case rel => exact ⟨(y332), (wrap64 (x7_2 + 1)), (by rfl), H', ⟨by have := HK1.out; have := HK2.out; omega⟩, ⟨by (try simp only [hl5_2]); exact HO_5.out⟩, ⟨by exact BK324.out⟩, ⟨HB.out⟩⟩
                ·rw [if_neg c24] at H
                 exact absurd H (by simp)
               ·rw [if_neg c23] at H
                exact absurd H (by simp)
              ·replace c21 := Bool.eq_false_iff.mpr c21
               subst c21
               replace H : (impl_star.l1 k2 (x5_2.set (x12_1 : Int).toNat false) x12_1 (wrap64 (x7_2 + 1)) (y325.length : Int) x12_1 l0_0 l0_1) = some r := by rw [if_neg (show ¬ (false = true) by decide)] at H; exact H
               obtain ⟨y333, hy333⟩ : ∃ y_ : List Bool, y_ = (x5_2.set (x12_1 : Int).toNat false) := ⟨_, rfl⟩
               replace H : (impl_star.l1 k2 y333 x12_1 (wrap64 (x7_2 + 1)) (y325.length : Int) x12_1 l0_0 l0_1) = some r := by first | (rw [hy333]; with_reducible exact H)
               have Ny333 := aM hy333
               clear hy333
               have H' := aM H
               clear H
               have p329 : 0 ≤ (x12_1 : Int) := of_decide_eq_true (by (with_reducible assumption))
               have q329 : x12_1 < (x5_2.length : Int) := of_decide_eq_true (by (with_reducible assumption))
               obtain ⟨ad329, e329, hx329_0⟩ := Kd.at_bool (Kd.R_reads' HO_5.out).2.2 x12_1 p329 q329
               (try rw [← Nbq18.out] at hx329_0)
               obtain rfl : (⟨go12, 0, none⟩ : Addr) = ad329 := (by injection e329)
               (simp only [add_plain] at hx329_0)
               replace p329 := eq_true p329
               replace q329 := eq_true q329
               have hcz31_0 : wr.cell? ⟨gb324, 0, none⟩ = some (.slice A0_0 l0_0.length c0_0) := (blk_cell BK324.out 0).trans rfl
               have hcz31_1 : wr.cell? ⟨gb324, 1, none⟩ = some (.slice A0_1 l0_1.length c0_1) := (blk_cell BK324.out 1).trans rfl
               have hfz31_0 := blk_frozen BK324.out 0
               have hfz31_1 := blk_frozen BK324.out 1
               go_wp2_with (first | ((with_reducible refine gate_callee (f := 33) rfl ?_); refine goesL_ (some 36) rfl rfl Try.func33 (by kernel_rfl) rfl #[.agg #[.slice A0_0 l0_0.length c0_0, .slice A0_1 l0_1.length c0_1], .int .i64 x7_2] rfl (by (try simp only [List.map_toArray, List.map_cons, List.map_nil]); rfl) ?_; (with_reducible refine (impl_set_has.calls _ _ l0_0 _ _ l0_1 x7_2 false _ ?side1 ?side2 ?side3 ?side4 A20.out).mono ?_); (case side1 => repeat (exact (Kd.C_below HR0_0.out HB.out))); (case side2 => exact HC0_0.out); (case side3 => repeat (exact (Kd.C_below HR0_1.out HB.out))); (case side4 => exact HC0_1.out); rintro e w32 ⟨rfl, hb⟩; refine ⟨_, rfl, ?_⟩; replace HO_5 := aM (Kd.R_below HO_5.out hb); replace BK324 := aM (blk_below (g := gb324) (o := .cells #[.slice A0_0 l0_0.length c0_0, .slice A0_1 l0_1.length c0_1] 56 (0, 0)) BK324.out hb); replace HB := aM (below_step HB.out hb); (try clear hb); have p30 : 0 ≤ (x12_1 : Int) := of_decide_eq_true (by (with_reducible assumption)); have q30 : (x12_1 : Int) < ((x5_2.length : Int) : Int) := of_decide_eq_true (by (with_reducible assumption)); obtain ⟨hx30_0, hf30_0⟩ := Kd.R_celln false HO_5.out (x12_1 : Int) p30 q30; replace p30 := eq_true p30; replace q30 := eq_true q30; obtain ⟨hy33_, hz33_⟩ := Kd.R_celln false HO_5.out (x12_1 : Int) (of_decide_eq_true (by (with_reducible assumption))) (of_decide_eq_true (by (with_reducible assumption))); have HP33 := Kd.R_putg HO_5.out (x12_1 : Int) false) | ((with_reducible refine gate_store (t := 4) (p := 45) rfl ?_); refine store_event (t := 4) (p := 45) (v := ?vo_w34) (w1 := (w32.setCell ⟨go12, (x12_1 : Int).toNat, none⟩ (.bool false))) ?hg ?ho ?hn ?hr ?_; (case ho => rfl); (case hg => rfl); (case hn => rfl); (case hr => first | (go_simp; done)); intro w34 hw; have hg : w32.grownBy w34 (some go12) := (by rw [hw]; exact HP33.2); have hp_ : Kd.R Kd.bool 4 w34 w.heap.size (fun _ => True) (.slice (some ⟨go12, 0, none⟩) x5_2.length co8) y333 := (by rw [hw, Ny333.out]; exact HP33.1); clear HP33; replace BK324 := aM (blk_grown (g := gb324) (o := .cells #[.slice A0_0 l0_0.length c0_0, .slice A0_1 l0_1.length c0_1] 56 (0, 0)) BK324.out hg (Kd.R_ne HO_5.out BK324.out (by decide))); replace HO_5 := aM hp_; replace HB := aM ((by rw [hw]; exact bS (HB.out) GB12.out : Below w.heap.size w w34)); clear hg hw hp_))
               (try simp only [← hl5_2])
               go_roundg k2
               case measure => have := HK1.out; have := HK2.out; omega
               case rel => exact ⟨(y333), (wrap64 (x7_2 + 1)), (by rfl), H', ⟨by have := HK1.out; have := HK2.out; omega⟩, ⟨by (try simp only [hl5_2]); exact HO_5.out⟩, ⟨by exact BK324.out⟩, ⟨HB.out⟩⟩
            ·rw [if_neg c17] at H
             exact absurd H (by simp)
           ·rw [if_neg c16] at H
            exact absurd H (by simp)
          ·rw [if_neg c15] at H
           have c15b0 : decide (x7_2 ≤ x12_1) = false := decide_eq_false c15
           clear c15
           have H' := aM H
           clear H
           go_wp2
           (try simp only [← hl5_1, ← hl5_2])
           go_roundg k2
           case measure => have := HK1.out; have := HK2.out; omega
           case rel => exact ⟨(x5_2), (wrap64 (x12_1 + 1)), (by rfl), H', ⟨by have := HK1.out; have := HK2.out; omega⟩, ⟨by (try simp only [hl5_1]); (try simp only [hl5_2]); exact HO_5.out⟩, ⟨by exact BK324.out⟩, ⟨HB.out⟩⟩
       ·rw [if_neg c11] at H
        exact absurd H (by simp)
      ·rw [if_neg c10] at H
       exact absurd H (by simp)
     ·rw [if_neg c9] at H
      have c9b0 : decide (x12_1 < (y325.length : Int)) = false := decide_eq_false c9
      have c9b0z := c9b0
      (try simp only [hl5_1] at c9b0z)
      clear c9
      obtain rfl := Option.some.inj H
      go_wp2
      go_ret
      exact ⟨_, by first | rfl | (simp [*, errW_none, errW_some] <;> rfl), by exact HO_5.out, HB.out⟩
  ·rw [if_neg c4] at H
   exact absurd H (by simp)
 ·rw [if_neg c3] at H
  exact absurd H (by simp)


/-- What is asked of the function that is made: of 0 z, of others the list. -/
def impl_starred.p (z : List Bool → List Bool → Option Bool) (t r l : List Bool) (n : Int) : Option Bool := if n = 0 then z t r else if 0 ≤ n then if n < l.length then some (rdOf false l n) else none else none
def impl_starred.g (k : Nat) (t r : List Bool) (z : List Bool → List Bool → Option Bool) (s : Int) : Option (ByteArray × Bool) := (impl_star.f k t r (1000 + s)).bind fun l => impl_made.f k 1000 s (impl_starred.p z t r l)
def impl_starred.f (k : Nat) (a0 : ByteArray) (z : List Bool → List Bool → Option Bool) : Option (ByteArray × Bool) :=
 (impl_small.f k a0).bind fun x => if x.2.2 = true then (impl_set_least.f k x.1 x.2.1).bind fun m => if 1 ≤ m then (if m ≤ 1000000 then impl_starred.g k x.1 x.2.1 z m else none) else impl_starred.g k x.1 x.2.1 z 1 else some (⟨#[]⟩, false)
theorem impl_starred.mono : ∀ a0 z k, LeO (impl_starred.f k a0 z) (impl_starred.f (k + 1) a0 z) := by
 intro a0 z k
 unfold impl_starred.f impl_starred.g
 repeat' first | (with_reducible exact impl_small.mono _ _) | (with_reducible exact impl_set_least.mono _ _ _) | (with_reducible exact impl_star.mono _ _ _ _) | (with_reducible exact impl_made.mono _ _ (fun _ => LeO.refl _) _ _ _) | (with_reducible exact LeO.refl _) | (with_reducible refine LeO.ite ?_ ?_) | (with_reducible refine LeO.bind ?_ (fun _ => ?_))
/-- What the function that is handed in answers. -/
def impl_starred.Zero (w : World) (g0 : Nat) (lb0 : Array Value) (z : List Bool → List Bool → Option Bool) : Prop :=
 ∀ (A0 : Option Addr) (c0 : Nat) (l0 : List Bool) (A1 : Option Addr) (c1 : Nat) (l1 : List Bool) (b : Bool) (W : World), Below w.heap.size w W → Kd.C Kd.bool W A0 l0.length l0 → l0.length ≤ c0 → Kd.C Kd.bool W A1 l1.length l1 → l1.length ≤ c1 → z l0 l1 = some b →
  Calls Try.prog g0 (#[.agg #[.slice A0 l0.length c0, .slice A1 l1.length c1]] ++ lb0) W fun e W' => e = .returned (.bool b) ∧ Below W.heap.size W W'
set_option maxHeartbeats 1000000 in
set_option maxRecDepth 100000 in
theorem impl_starred.lit (g0 : Nat) (z : List Bool → List Bool → Option Bool) (w : World) (eg0 : ∀ args w, (callFunc g0 args).run Try.prog w = .ok (.enter g0 args) w) (hz : impl_starred.Zero w g0 #[] z)
  (B1 B2 B3 : Nat) (A0 : Option Addr) (c0 : Nat) (l0 : List Bool) (A1 : Option Addr) (c1 : Nat) (l1 : List Bool) (A2 : Option Addr) (c2 : Nat) (l2 : List Bool) (n : Int) (b : Bool) (W : World) (hw : Below w.heap.size w W)
  (h1 : W.heap[B1]? = some (.cells #[.func (.func g0) #[] #[]] 87 (0, 0))) (h2 : W.heap[B2]? = some (.cells #[.slice A0 l0.length c0, .slice A1 l1.length c1] 56 (0, 0))) (h3 : W.heap[B3]? = some (.cells #[.slice A2 l2.length c2] 52 (0, 0)))
  (r0 : Kd.C Kd.bool W A0 l0.length l0) (q0 : l0.length ≤ c0) (r1 : Kd.C Kd.bool W A1 l1.length l1) (q1 : l1.length ≤ c1) (r2 : Kd.C Kd.bool W A2 l2.length l2) (h : impl_starred.p z l0 l1 l2 n = some b) :
  Calls Try.prog 85 #[.int .i64 n, .pointer (some ⟨B1, 0, none⟩), .pointer (some ⟨B2, 0, none⟩), .pointer (some ⟨B3, 0, none⟩)] W fun e W' => e = .returned (.bool b) ∧ Below W.heap.size W W' := by
 have c10 : W.cell? ⟨B1, 0, none⟩ = some (.func (.func g0) #[] #[]) := (blk_cell h1 0).trans rfl
 have c20 : W.cell? ⟨B2, 0, none⟩ = some (.slice A0 l0.length c0) := (blk_cell h2 0).trans rfl
 have c21 : W.cell? ⟨B2, 1, none⟩ = some (.slice A1 l1.length c1) := (blk_cell h2 1).trans rfl
 have c30 : W.cell? ⟨B3, 0, none⟩ = some (.slice A2 l2.length c2) := (blk_cell h3 0).trans rfl
 unfold impl_starred.p at h
 by_cases e0 : n = 0
 ·subst e0
  rw [if_pos rfl] at h
  have C := hz A0 c0 l0 A1 c1 l1 b W hw r0 q0 r1 q1 h
  simp only [Array.append_empty] at C
  clear h1 h2 h3 r0 r1 r2 q0 q1 h hz hw
  go_enter Try.func85, Try.ntmps85
  go_wp2_with (go_at_fn g0; refine C.mono ?_; rintro e w' ⟨rfl, hb⟩)
  go_ret
  exact ⟨rfl, hb⟩
 ·rw [if_neg e0] at h
  by_cases e1 : 0 ≤ n
  ·rw [if_pos e1] at h
   by_cases e2 : n < (l2.length : Int)
   ·rw [if_pos e2] at h
    obtain ⟨ad, had, hcell⟩ := (Kd.reads_of_C (d := false) r2).at_ n e1 e2
    subst had
    obtain rfl := Option.some.inj h
    have e0b : (n == 0) = false := by simpa using e0
    clear h1 h2 h3 r0 r1 r2 q0 q1 h hz hw
    go_enter Try.func85, Try.ntmps85
    go_wp2
    go_ret
    exact ⟨rfl, Below.refl _ _⟩
   ·rw [if_neg e2] at h; cases h
  ·rw [if_neg e1] at h; cases h
theorem impl_starred.set2 {w : World} {g T : Nat} {u v u' v' : Value} (h : w.heap[g]? = some (.cells #[u, v] T (0, 0))) : ((w.setCell ⟨g, 0, none⟩ u').setCell ⟨g, 1, none⟩ v').heap[g]? = some (.cells #[u', v'] T (0, 0)) := blk_set (blk_set h 0 u') 1 v'
theorem impl_starred.set1 {w : World} {g T : Nat} {u u' : Value} (h : w.heap[g]? = some (.cells #[u] T (0, 0))) : (w.setCell ⟨g, 0, none⟩ u').heap[g]? = some (.cells #[u'] T (0, 0)) := blk_set h 0 u'
set_option maxHeartbeats 2000000 in
set_option maxRecDepth 100000 in
theorem impl_starred.calls (k : Nat) (a0 : ByteArray) (g0 : Nat) (z : List Bool → List Bool → Option Bool) (r1 : ByteArray) (r2 : Bool) (w : World) (eg0 : ∀ args w, (callFunc g0 args).run Try.prog w = .ok (.enter g0 args) w) (hz : impl_starred.Zero w g0 #[] z) (h : impl_starred.f k a0 z = some (r1, r2)) :
  Calls Try.prog 62 #[.string a0, .func (.func g0) #[] #[]] w fun e w' => e = .returned (.tuple #[.string r1, .bool r2]) ∧ Below w.heap.size w w' := by
 have hmf : ∀ (fn : Fn) (first cap : Array Value) (w : World), (Instr.makeFunc fn first cap).run Try.prog w = .ok (.func fn first cap) w := fun _ _ _ _ => rfl
 unfold impl_starred.f at h
 obtain ⟨⟨t, r, ok⟩, hsm, h⟩ := Option.bind_eq_some_iff.mp h
 have HZ := aM hz; have EG := aM eg0
 clear hz eg0
 have BZ := Lib.hid (blk_new w (.cells #[.func (.func g0) #[] #[]] 87))
 have HB0 : Aside0 (Below w.heap.size w (w.alloc (.cells #[.func (.func g0) #[] #[]] 87))) := ⟨(Below.refl _ w).alloc (Nat.le_refl _) _⟩
 cases ok with
 | false =>
  have HS := aM hsm
  simp only [Bool.false_eq_true, if_false, Option.some.injEq, Prod.mk.injEq] at h
  obtain ⟨rfl, rfl⟩ := h
  clear hsm
  go_enter Try.func62, Try.ntmps62
  go_wp2_with (first | (go_at_call 66; refine (impl_small.calls k a0 t r false _ HS.out).mono ?_; rintro e w1 ⟨v0, v1, rfl, ho0, ho1, hb⟩; obtain ⟨A0, c0, rfl, q0, k0⟩ := Kd.R_reads ho0; obtain ⟨A1, c1, rfl, q1, k1⟩ := Kd.R_reads ho1; have HB1 := aM (below_step HB0.out hb); clear ho0 ho1 k0 k1 q0 q1 hb) | ((with_reducible refine gate_dst (N := 6) rfl ?_); refine box_event ?hg (N := 6) ?hd (cs := #[.slice none 0 0, .slice none 0 0]) (t := 56) ?hr ?_; (case hd => rfl); (case hg => rfl); (case hr => first | (go_simp; done)); intro gb hg w2 hbox hb; have c0_ := blk_cell hbox 0; have c1_ := blk_cell hbox 1; have f0_ := blk_frozen hbox 0; have f1_ := blk_frozen hbox 1; have HB2 := aM (below_step HB1.out hb); have GB := aM (show w.heap.size ≤ gb by rw [hg]; exact HB1.out.size); clear hg hb hbox))
  go_ret2
  exact ⟨rfl, (HB2.out.setCell (p := ⟨gb, 0, none⟩) GB.out _).setCell (p := ⟨gb, 1, none⟩) GB.out _⟩
 | true =>
  simp only [if_true] at h
  obtain ⟨m, hm, h⟩ := Option.bind_eq_some_iff.mp h
  split at h
  ·rename_i m0
   split at h
   case isFalse => cases h
   rename_i m1
   obtain ⟨l, hl, h⟩ := Option.bind_eq_some_iff.mp h
   have HS := aM hsm; have HM := aM hm; have HL := aM hl; have H := aM h
   clear hsm hm hl h
   go_enter Try.func62, Try.ntmps62
   go_wp2_with (first | (go_at_call 66; refine (impl_small.calls k a0 t r true _ HS.out).mono ?_; rintro e w1 ⟨v0, v1, rfl, ho0, ho1, hb⟩; obtain ⟨A0, c0, rfl, q0, k0⟩ := Kd.R_reads ho0; obtain ⟨A1, c1, rfl, q1, k1⟩ := Kd.R_reads ho1; have HB1 := aM (below_step HB0.out hb); have BZ1 := aM (blk_below BZ.out hb); have K0 := aM k0; have K1 := aM k1; clear ho0 ho1 k0 k1 hb) | ((with_reducible refine gate_dst (N := 6) rfl ?_); refine box_event ?hg (N := 6) ?hd (cs := #[.slice none 0 0, .slice none 0 0]) (t := 56) ?hr ?_; (case hd => rfl); (case hg => rfl); (case hr => first | (go_simp; done)); intro gb hg w2 hbox hb; have c0_ := blk_cell hbox 0; have c1_ := blk_cell hbox 1; have f0_ := blk_frozen hbox 0; have f1_ := blk_frozen hbox 1; have hbs := (hb.setCell (p := ⟨gb, 0, none⟩) (by rw [hg]; exact Nat.le_refl _) (.slice A0 t.length c0)).setCell (p := ⟨gb, 1, none⟩) (by rw [hg]; exact Nat.le_refl _) (.slice A1 r.length c1); have BK2 := aM (impl_starred.set2 (u' := .slice A0 t.length c0) (v' := .slice A1 r.length c1) hbox); have BZ2 := aM (blk_below BZ1.out hbs); have HB2 := aM (below_step HB1.out hbs); have KK0 := aM (Kd.C_below K0.out hbs); have KK1 := aM (Kd.C_below K1.out hbs); clear hg hb hbox hbs) | (go_at_call 83; refine (impl_set_least.calls k A0 c0 t A1 c1 r m _ KK0.out q0 KK1.out q1 HM.out).mono ?_; rintro e w3 ⟨rfl, hb⟩; clear c0_ c1_ f0_ f1_; have BK3 := aM (blk_below BK2.out hb); have BZ3 := aM (blk_below BZ2.out hb); have HB3 := aM (below_step HB2.out hb); have L0 := aM (Kd.C_below KK0.out hb); have L1 := aM (Kd.C_below KK1.out hb); have d0_ : w3.cell? ⟨gb, 0, none⟩ = some (.slice A0 t.length c0) := blk_cell BK3.out 0; have d1_ : w3.cell? ⟨gb, 1, none⟩ = some (.slice A1 r.length c1) := blk_cell BK3.out 1; clear hb) | (go_at_call 84; refine (impl_star.calls k A0 c0 t A1 c1 r (1000 + m) l _ L0.out q0 L1.out q1 HL.out).mono ?_; rintro e w4 ⟨v2, rfl, ho2, hb⟩; obtain ⟨A2, c2, rfl, q2, k2⟩ := Kd.R_reads ho2; have BK4 := aM (blk_below BK3.out hb); have BZ4 := aM (blk_below BZ3.out hb); have HB4 := aM (below_step HB3.out hb); have M0 := aM (Kd.C_below L0.out hb); have M1 := aM (Kd.C_below L1.out hb); have M2 := aM k2; clear d0_ d1_ ho2 k2 hb) | ((with_reducible refine gate_dst (N := 9) rfl ?_); refine box_event ?hg (N := 9) ?hd (cs := #[.slice none 0 0]) (t := 52) ?hr ?_; (case hd => rfl); (case hg => rfl); (case hr => first | (go_simp; done)); intro gc hg w5 hbox hb; have e0_ := blk_cell hbox 0; have e1_ := blk_frozen hbox 0; have hbs := hb.setCell (p := ⟨gc, 0, none⟩) (by rw [hg]; exact Nat.le_refl _) (.slice A2 l.length c2); have BL5 := aM (impl_starred.set1 (u' := .slice A2 l.length c2) hbox); have BK5 := aM (blk_below BK4.out hbs); have BZ5 := aM (blk_below BZ4.out hbs); have HB5 := aM (below_step HB4.out hbs); have N0 := aM (Kd.C_below M0.out hbs); have N1 := aM (Kd.C_below M1.out hbs); have N2 := aM (Kd.C_below M2.out hbs); clear hg hb hbox hbs) | (go_at_call 67; refine (impl_made.calls k 1000 (m) (impl_starred.p z t r l) 85 #[.pointer (some ⟨w.heap.size, 0, none⟩), .pointer (some ⟨gb, 0, none⟩), .pointer (some ⟨gc, 0, none⟩)] r1 r2 _ (fun args_ w_ => enters_ Try.func85 (by kernel_rfl) rfl args_ w_) ?hpx H.out).mono ?_; (case hpx => intro n_ b_ W_ hW_ hb_; exact impl_starred.lit g0 z w EG.out HZ.out w.heap.size gb gc A0 c0 t A1 c1 r A2 c2 l n_ b_ W_ (below_step HB5.out hW_) (blk_below BZ5.out hW_) (blk_below BK5.out hW_) (blk_below BL5.out hW_) (Kd.C_below N0.out hW_) q0 (Kd.C_below N1.out hW_) q1 (Kd.C_below N2.out hW_) hb_); rintro e w6 ⟨rfl, hb⟩; have HB6 := aM (below_step HB5.out hb); clear hb))
   go_ret2
   exact ⟨rfl, HB6.out⟩
  ·rename_i m0
   obtain ⟨l, hl, h⟩ := Option.bind_eq_some_iff.mp h
   have HS := aM hsm; have HM := aM hm; have HL := aM hl; have H := aM h
   clear hsm hm hl h
   go_enter Try.func62, Try.ntmps62
   go_wp2_with (first | (go_at_call 66; refine (impl_small.calls k a0 t r true _ HS.out).mono ?_; rintro e w1 ⟨v0, v1, rfl, ho0, ho1, hb⟩; obtain ⟨A0, c0, rfl, q0, k0⟩ := Kd.R_reads ho0; obtain ⟨A1, c1, rfl, q1, k1⟩ := Kd.R_reads ho1; have HB1 := aM (below_step HB0.out hb); have BZ1 := aM (blk_below BZ.out hb); have K0 := aM k0; have K1 := aM k1; clear ho0 ho1 k0 k1 hb) | ((with_reducible refine gate_dst (N := 6) rfl ?_); refine box_event ?hg (N := 6) ?hd (cs := #[.slice none 0 0, .slice none 0 0]) (t := 56) ?hr ?_; (case hd => rfl); (case hg => rfl); (case hr => first | (go_simp; done)); intro gb hg w2 hbox hb; have c0_ := blk_cell hbox 0; have c1_ := blk_cell hbox 1; have f0_ := blk_frozen hbox 0; have f1_ := blk_frozen hbox 1; have hbs := (hb.setCell (p := ⟨gb, 0, none⟩) (by rw [hg]; exact Nat.le_refl _) (.slice A0 t.length c0)).setCell (p := ⟨gb, 1, none⟩) (by rw [hg]; exact Nat.le_refl _) (.slice A1 r.length c1); have BK2 := aM (impl_starred.set2 (u' := .slice A0 t.length c0) (v' := .slice A1 r.length c1) hbox); have BZ2 := aM (blk_below BZ1.out hbs); have HB2 := aM (below_step HB1.out hbs); have KK0 := aM (Kd.C_below K0.out hbs); have KK1 := aM (Kd.C_below K1.out hbs); clear hg hb hbox hbs) | (go_at_call 83; refine (impl_set_least.calls k A0 c0 t A1 c1 r m _ KK0.out q0 KK1.out q1 HM.out).mono ?_; rintro e w3 ⟨rfl, hb⟩; clear c0_ c1_ f0_ f1_; have BK3 := aM (blk_below BK2.out hb); have BZ3 := aM (blk_below BZ2.out hb); have HB3 := aM (below_step HB2.out hb); have L0 := aM (Kd.C_below KK0.out hb); have L1 := aM (Kd.C_below KK1.out hb); have d0_ : w3.cell? ⟨gb, 0, none⟩ = some (.slice A0 t.length c0) := blk_cell BK3.out 0; have d1_ : w3.cell? ⟨gb, 1, none⟩ = some (.slice A1 r.length c1) := blk_cell BK3.out 1; clear hb) | (go_at_call 84; refine (impl_star.calls k A0 c0 t A1 c1 r (1001) l _ L0.out q0 L1.out q1 HL.out).mono ?_; rintro e w4 ⟨v2, rfl, ho2, hb⟩; obtain ⟨A2, c2, rfl, q2, k2⟩ := Kd.R_reads ho2; have BK4 := aM (blk_below BK3.out hb); have BZ4 := aM (blk_below BZ3.out hb); have HB4 := aM (below_step HB3.out hb); have M0 := aM (Kd.C_below L0.out hb); have M1 := aM (Kd.C_below L1.out hb); have M2 := aM k2; clear d0_ d1_ ho2 k2 hb) | ((with_reducible refine gate_dst (N := 9) rfl ?_); refine box_event ?hg (N := 9) ?hd (cs := #[.slice none 0 0]) (t := 52) ?hr ?_; (case hd => rfl); (case hg => rfl); (case hr => first | (go_simp; done)); intro gc hg w5 hbox hb; have e0_ := blk_cell hbox 0; have e1_ := blk_frozen hbox 0; have hbs := hb.setCell (p := ⟨gc, 0, none⟩) (by rw [hg]; exact Nat.le_refl _) (.slice A2 l.length c2); have BL5 := aM (impl_starred.set1 (u' := .slice A2 l.length c2) hbox); have BK5 := aM (blk_below BK4.out hbs); have BZ5 := aM (blk_below BZ4.out hbs); have HB5 := aM (below_step HB4.out hbs); have N0 := aM (Kd.C_below M0.out hbs); have N1 := aM (Kd.C_below M1.out hbs); have N2 := aM (Kd.C_below M2.out hbs); clear hg hb hbox hbs) | (go_at_call 67; refine (impl_made.calls k 1000 (1) (impl_starred.p z t r l) 85 #[.pointer (some ⟨w.heap.size, 0, none⟩), .pointer (some ⟨gb, 0, none⟩), .pointer (some ⟨gc, 0, none⟩)] r1 r2 _ (fun args_ w_ => enters_ Try.func85 (by kernel_rfl) rfl args_ w_) ?hpx H.out).mono ?_; (case hpx => intro n_ b_ W_ hW_ hb_; exact impl_starred.lit g0 z w EG.out HZ.out w.heap.size gb gc A0 c0 t A1 c1 r A2 c2 l n_ b_ W_ (below_step HB5.out hW_) (blk_below BZ5.out hW_) (blk_below BK5.out hW_) (blk_below BL5.out hW_) (Kd.C_below N0.out hW_) q0 (Kd.C_below N1.out hW_) q1 (Kd.C_below N2.out hW_) hb_); rintro e w6 ⟨rfl, hb⟩; have HB6 := aM (below_step HB5.out hb); clear hb))
   go_ret2
   exact ⟨rfl, HB6.out⟩
def impl_StarOf.f (k : Nat) (a0 : ByteArray) : Option (ByteArray × Bool) := impl_starred.f k a0 (fun _ _ => some true)
theorem impl_StarOf.mono : ∀ a0 k, LeO (impl_StarOf.f k a0) (impl_StarOf.f (k + 1) a0) := fun a0 k => impl_starred.mono a0 _ k
set_option maxHeartbeats 1000000 in
set_option maxRecDepth 100000 in
theorem impl_StarOf.zero (w : World) : impl_starred.Zero w 63 #[] (fun _ _ => some true) := by
 intro A0 c0 l0 A1 c1 l1 b W _ _ _ _ _ h
 obtain rfl := Option.some.inj h
 clear h
 go_enter Try.func63, Try.ntmps63
 go_wp2
 go_ret
 exact ⟨rfl, (Below.refl _ W).alloc (Nat.le_refl _) _⟩
set_option maxHeartbeats 1000000 in
set_option maxRecDepth 100000 in
theorem impl_StarOf.calls (k : Nat) (a0 : ByteArray) (r1 : ByteArray) (r2 : Bool) (w : World) (h : impl_StarOf.f k a0 = some (r1, r2)) :
  Calls Try.prog 46 #[.string a0] w fun e w' => e = .returned (.tuple #[.string r1, .bool r2]) ∧ Below w.heap.size w w' := by
 have C := impl_starred.calls k a0 63 _ r1 r2 w (fun args_ w_ => enters_ Try.func63 (by kernel_rfl) rfl args_ w_) (impl_StarOf.zero w) h
 clear h
 go_enter Try.func46, Try.ntmps46
 go_wp2_with (go_at_call 62; refine C.mono ?_; rintro e w' ⟨rfl, hb⟩)
 go_ret2
 exact ⟨rfl, hb⟩

def impl_gcd.l0 : Nat → Int → Int → Option (Int)
 | 0, _, _ => none
 | k + 1, x0, x1 => if x1 = 0 then (some x0) else (impl_gcd.l0 k x1 (Int.tmod x0 x1))
def impl_gcd.f (k : Nat) (a0 : Int) (a1 : Int) : Option (Int) := impl_gcd.l0 k a0 a1
theorem impl_gcd.mono_l : ∀ k, (∀ y0 y1, LeO (impl_gcd.l0 k y0 y1) (impl_gcd.l0 (k + 1) y0 y1))
 | 0 => fun _ _ r h => by simp [impl_gcd.l0] at h
 | k + 1 => by
  have ih0 := impl_gcd.mono_l k
  ·intro y0 y1
   unfold impl_gcd.l0
   repeat' first | (with_reducible exact ih0 _ _) | (with_reducible exact LeO.refl _) | (with_reducible refine LeO.ite ?_ ?_)
theorem impl_gcd.mono : ∀ a0 a1 k, LeO (impl_gcd.f k a0 a1) (impl_gcd.f (k + 1) a0 a1) := by
 intro a0 a1 k
 have ih0 := impl_gcd.mono_l k
 unfold impl_gcd.f
 repeat' (with_reducible exact ih0 _ _)
set_option maxHeartbeats 8000000 in
set_option maxRecDepth 100000 in
theorem impl_gcd.calls (k : Nat) (a0 : Int) (a1 : Int) (r : Int) (w : World) (h : impl_gcd.f k a0 a1 = some r) :
  Calls Try.prog 88 #[.int .i64 a0, .int .i64 a1] w fun e w' => e = .returned (.int .i64 r) ∧ Drawn0 w w' := by
 have H : (impl_gcd.l0 k a0 a1) = some r := h
 clear h
 have H' := aM H
 clear H
 go_enter Try.func88, Try.ntmps88
 go_wp2
 repeat (go_quiet (fail); try go_wp2)
 go_loopg [0, 1] k (fun kq v0 v1 w' => ∃ (x0_1 : Int) (x1_1 : Int), v0 = .int .i64 x0_1 ∧ v1 = .int .i64 x1_1 ∧ Aside0 (impl_gcd.l0 kq x0_1 x1_1 = some r) ∧ Aside0 (kq ≤ k) ∧ Drawn0 w w')
 case atStart => exact ⟨(a0), (a1), (by rfl), (by rfl), H', ⟨Nat.le_refl _⟩, by repeat (exact Drawn0.refl _)⟩
 case round =>
  clear H'
  obtain ⟨x0_1, x1_1, rfl, rfl, HA, HK1, ⟨m1, rfl⟩⟩ := hrel
  cases gk with
  | zero => exact absurd HA.out (by simp [impl_gcd.l0])
  | succ k1 =>
   have H := HA.out
   clear HA
   simp only [impl_gcd.l0] at H
   by_cases c3 : x1_1 = 0
   ·rw [if_pos c3] at H
    have c3b0 : (x1_1 == 0) = true := beq_iff_eq.mpr c3
    have c3b1 : (x1_1 != 0) = false := bne_eq_false_iff_eq.mpr c3
    clear c3
    obtain rfl := Option.some.inj H
    go_wp2
    repeat (go_quiet (fail); try go_wp2)
    go_ret
    exact ⟨by first | rfl | (simp [*]; done), by repeat (first | exact Drawn0.refl _ | apply Drawn0.step)⟩
   ·rw [if_neg c3] at H
    have c3b0 : (x1_1 == 0) = false := beq_eq_false_iff_ne.mpr c3
    have c3b1 : (x1_1 != 0) = true := bne_iff_ne.mpr c3
    have H' := aM H
    clear H
    go_wp2
    repeat (go_quiet (fail); try go_wp2)
    go_roundg k1
    case measure => have := HK1.out; omega
    case rel => exact ⟨(x1_1), (Int.tmod x0_1 x1_1), (by rfl), (by rfl), H', ⟨by have := HK1.out; omega⟩, by repeat (first | exact Drawn0.refl _ | apply Drawn0.step)⟩


def impl_lcm.f (k : Nat) (a0 : Int) (a1 : Int) : Option (Int) := (impl_gcd.f k a0 a1).bind fun t334 => (if t334 = 0 then (none) else (some (wrap64 ((wrap64 (Int.tdiv a0 t334)) * a1))))
theorem impl_lcm.mono : ∀ a0 a1 k, LeO (impl_lcm.f k a0 a1) (impl_lcm.f (k + 1) a0 a1) := by
 intro a0 a1 k
 unfold impl_lcm.f
 repeat' first
   |(with_reducible exact impl_gcd.mono _ _ _)
   |(with_reducible exact LeO.refl _)
   |(with_reducible exact LeO.none _)
   |(with_reducible refine LeO.ite ?_ ?_)
   |(with_reducible refine LeO.bind ?_ (fun _ => ?_))
   |exact impl_gcd.mono _ _ _
   |exact LeO.none _
   |refine LeO.ite ?_ ?_
   |refine LeO.bind ?_ (fun _ => ?_)
set_option maxHeartbeats 8000000 in
set_option maxRecDepth 100000 in
theorem impl_lcm.calls (k : Nat) (a0 : Int) (a1 : Int) (r : Int) (w : World) (h : impl_lcm.f k a0 a1 = some r) :
  Calls Try.prog 68 #[.int .i64 a0, .int .i64 a1] w fun e w' => e = .returned (.int .i64 r) ∧ Drawn0 w w' := by
 have H : ((impl_gcd.f k a0 a1).bind fun t334 => (if t334 = 0 then (none) else (some (wrap64 ((wrap64 (Int.tdiv a0 t334)) * a1))))) = some r := h
 clear h
 replace H := Option.bind_eq_some_iff.mp H
 obtain ⟨t334, A30, H⟩ := H
 replace H : (if t334 = 0 then (none) else (some (wrap64 ((wrap64 (Int.tdiv a0 t334)) * a1)))) = some r := H
 have A3 := aM A30
 clear A30
 by_cases c4 : t334 = 0
 ·rw [if_pos c4] at H
  exact absurd H (by simp)
 ·rw [if_neg c4] at H
  have c4b0 : (t334 == 0) = false := beq_eq_false_iff_ne.mpr c4
  have c4b1 : (t334 != 0) = true := bne_iff_ne.mpr c4
  obtain rfl := Option.some.inj H
  go_enter Try.func68, Try.ntmps68
  go_wp2_with (first | ((with_reducible refine gate_callee (f := 88) rfl ?_); refine goesL_ (some 8) rfl rfl Try.func88 (by kernel_rfl) rfl #[.int .i64 a0, .int .i64 a1] rfl (by (try simp only [List.map_toArray, List.map_cons, List.map_nil]); first | done | rfl | (simp only [List.length_drop, List.length_take]; rfl)) ?_; (with_reducible refine (impl_gcd.calls k a0 a1 t334 _ A3.out).mono ?_); rintro e w' ⟨rfl, ⟨nd, rfl⟩⟩; refine ⟨_, rfl, ?_⟩))
  go_ret
  exact ⟨by first | rfl | (simp; done) | (simp [*]; done), by repeat (first | exact Drawn0.refl _ | apply Drawn0.step)⟩


def impl_both.f (k : Nat) (l0_0 : List Bool) (l0_1 : List Bool) (l1_0 : List Bool) (l1_1 : List Bool) : Option (Int × Int) := (impl_lcm.f k (l0_1.length : Int) (l1_1.length : Int)).bind fun t337 => (some (mx (l0_0.length : Int) (l1_0.length : Int), t337))
theorem impl_both.mono : ∀ a0 a1 a2 a3 k, LeO (impl_both.f k a0 a1 a2 a3) (impl_both.f (k + 1) a0 a1 a2 a3) := by
 intro a0 a1 a2 a3 k
 unfold impl_both.f
 repeat' first
   |(with_reducible exact impl_lcm.mono _ _ _)
   |(with_reducible exact LeO.refl _)
   |(with_reducible exact LeO.none _)
   |(with_reducible refine LeO.ite ?_ ?_)
   |(with_reducible refine LeO.bind ?_ (fun _ => ?_))
   |exact impl_lcm.mono _ _ _
   |exact LeO.none _
   |refine LeO.ite ?_ ?_
   |refine LeO.bind ?_ (fun _ => ?_)
set_option maxHeartbeats 8000000 in
set_option maxRecDepth 100000 in
theorem impl_both.calls (k : Nat) (A0_0 : Option Addr) (c0_0 : Nat) (l0_0 : List Bool) (A0_1 : Option Addr) (c0_1 : Nat) (l0_1 : List Bool) (A1_0 : Option Addr) (c1_0 : Nat) (l1_0 : List Bool) (A1_1 : Option Addr) (c1_1 : Nat) (l1_1 : List Bool) (r1 : Int) (r2 : Int) (w : World) (hr0_0 : Kd.C Kd.bool w A0_0 l0_0.length l0_0) (hc0_0 : l0_0.length ≤ c0_0) (hr0_1 : Kd.C Kd.bool w A0_1 l0_1.length l0_1) (hc0_1 : l0_1.length ≤ c0_1) (hr1_0 : Kd.C Kd.bool w A1_0 l1_0.length l1_0) (hc1_0 : l1_0.length ≤ c1_0) (hr1_1 : Kd.C Kd.bool w A1_1 l1_1.length l1_1) (hc1_1 : l1_1.length ≤ c1_1) (h : impl_both.f k l0_0 l0_1 l1_0 l1_1 = some (r1, r2)) :
  Calls Try.prog 86 #[.agg #[.slice A0_0 l0_0.length c0_0, .slice A0_1 l0_1.length c0_1], .agg #[.slice A1_0 l1_0.length c1_0, .slice A1_1 l1_1.length c1_1]] w fun e w' => e = .returned (.tuple #[.int .i64 r1, .int .i64 r2]) ∧ Below w.heap.size w w' := by
 have hu56 := Try.underlying56
 have HR0_0 := aM hr0_0
 have HC0_0 := aM hc0_0
 clear hr0_0 hc0_0
 have HR0_1 := aM hr0_1
 have HC0_1 := aM hc0_1
 clear hr0_1 hc0_1
 have HR1_0 := aM hr1_0
 have HC1_0 := aM hc1_0
 clear hr1_0 hc1_0
 have HR1_1 := aM hr1_1
 have HC1_1 := aM hc1_1
 clear hr1_1 hc1_1
 have HB := aM (Below.refl w.heap.size w)
 have H : ((impl_lcm.f k (l0_1.length : Int) (l1_1.length : Int)).bind fun t337 => (some (mx (l0_0.length : Int) (l1_0.length : Int), t337))) = some (r1, r2) := h
 clear h
 obtain ⟨ji3, hji3⟩ : ∃ j_ : Int, (mx (l0_0.length : Int) (l1_0.length : Int)) = j_ := ⟨_, rfl⟩
 replace H : ((impl_lcm.f k (l0_1.length : Int) (l1_1.length : Int)).bind fun t337 => (some (ji3, t337))) = some (r1, r2) := by first | (rw [hji3] at H; exact H) | (simp only [hji3] at H ⊢; exact H)
 (try (have hji3l : 0 ≤ ji3 := by (rw [← hji3]; unfold mx; (repeat' split) <;> omega)))
 (try (have hji3m : 0 ≤ ji3 := by omega))
 have hji3_ : (if (l0_0.length : Int) < (l1_0.length : Int) then (l1_0.length : Int) else (l0_0.length : Int)) = ji3 := hji3
 have hji3n : (if l0_0.length < l1_0.length then (l1_0.length : Int) else (l0_0.length : Int)) = ji3 := by rw [← hji3_]; split <;> split <;> omega
 replace H := Option.bind_eq_some_iff.mp H
 obtain ⟨t337, A40, H⟩ := H
 replace H : (some (ji3, t337)) = some (r1, r2) := H
 have A4 := aM A40
 clear A40
 simp only [Option.some.injEq, Prod.mk.injEq] at H
 obtain ⟨rfl, rfl⟩ := H
 go_enter Try.func86, Try.ntmps86
 go_wp2_with (first | ((with_reducible refine gate_dst (N := 2) rfl ?_); refine box_event ?hg (N := 2) ?hd (cs := #[.slice A0_0 l0_0.length c0_0, .slice A0_1 l0_1.length c0_1]) (t := 56) ?hr ?_; (case hd => rfl); (case hg => rfl); (case hr => first | (go_simp; done) | (go_simp; rfl)); intro gb335 hg w5 hbox hb; have BK335 := aM hbox; have GW335 := aM ((by rw [hg]; exact (below_size (by repeat (first | (with_reducible first | exact HB.out | apply bA | apply bN | apply b1) | exact HB.out))) : w.heap.size ≤ gb335)); have GE335 := aM ((by rw [hg]; exact (below_size (by repeat (first | (with_reducible first | exact HB.out | apply bA | apply bN | apply b1) | exact HB.out))) : w.heap.size ≤ gb335)); replace HB := aM (below_step (by repeat (first | (with_reducible first | exact HB.out | apply bA | apply bN | apply b1) | exact HB.out)) hb); clear hb hbox hg) | ((with_reducible refine gate_dst (N := 3) rfl ?_); refine box_event ?hg (N := 3) ?hd (cs := #[.slice A1_0 l1_0.length c1_0, .slice A1_1 l1_1.length c1_1]) (t := 56) ?hr ?_; (case hd => rfl); (case hg => rfl); (case hr => first | (go_simp; done) | (go_simp; rfl)); intro gb336 hg w6 hbox hb; have BK336 := aM hbox; have GW336 := aM ((by rw [hg]; exact (below_size (by repeat (first | (with_reducible first | exact HB.out | apply bA | apply bN | apply b1 | refine bS ?_ GE335.out) | exact HB.out))) : w.heap.size ≤ gb336)); have GE336 := aM ((by rw [hg]; exact (below_size (by repeat (first | (with_reducible first | exact HB.out | apply bA | apply bN | apply b1 | refine bS ?_ GE335.out) | exact HB.out))) : w.heap.size ≤ gb336)); replace HB := aM (below_step (by repeat (first | (with_reducible first | exact HB.out | apply bA | apply bN | apply b1 | refine bS ?_ GE335.out) | exact HB.out)) hb); have NB335_336 := aM ((by rw [hg]; exact Nat.ne_of_lt (blk_lt (g := gb335) (o := .cells #[.slice A0_0 l0_0.length c0_0, .slice A0_1 l0_1.length c0_1] 56 (0, 0)) (by (with_reducible repeat (first | refine kN ?_ _ | refine kD ?_ | refine kA ?_ _)); exact BK335.out)) : gb335 ≠ gb336)); have NB336_335 := aM ((by rw [hg]; exact Nat.ne_of_gt (blk_lt (g := gb335) (o := .cells #[.slice A0_0 l0_0.length c0_0, .slice A0_1 l0_1.length c0_1] 56 (0, 0)) (by (with_reducible repeat (first | refine kN ?_ _ | refine kD ?_ | refine kA ?_ _)); exact BK335.out)) : gb336 ≠ gb335)); replace BK335 := aM (blk_below (g := gb335) (o := .cells #[.slice A0_0 l0_0.length c0_0, .slice A0_1 l0_1.length c0_1] 56 (0, 0)) (by (with_reducible repeat (first | refine kN ?_ _ | refine kD ?_ | refine kA ?_ _)); exact BK335.out) hb); clear hb hbox hg; have hnb7 := NB335_336.out; have hnc7 := NB336_335.out; have hcz8_0 : w6.cell? ⟨gb335, 0, none⟩ = some (.slice A0_0 l0_0.length c0_0) := (blk_cell BK335.out 0).trans rfl; have hcz8_1 : w6.cell? ⟨gb335, 1, none⟩ = some (.slice A0_1 l0_1.length c0_1) := (blk_cell BK335.out 1).trans rfl; have hfz8_0 := blk_frozen BK335.out 0; have hfz8_1 := blk_frozen BK335.out 1; have hcz9_0 : w6.cell? ⟨gb336, 0, none⟩ = some (.slice A1_0 l1_0.length c1_0) := (blk_cell BK336.out 0).trans rfl; have hcz9_1 : w6.cell? ⟨gb336, 1, none⟩ = some (.slice A1_1 l1_1.length c1_1) := (blk_cell BK336.out 1).trans rfl; have hfz9_0 := blk_frozen BK336.out 0; have hfz9_1 := blk_frozen BK336.out 1) | (go_at_call 68; (with_reducible refine (impl_lcm.calls k (l0_1.length : Int) (l1_1.length : Int) t337 _ A4.out).mono ?_); rintro e w' ⟨rfl, ⟨nd, rfl⟩⟩; (try first | exact ⟨rfl, _, World.drewN_drewN _ _ _⟩ | exact ⟨rfl, _, Eq.trans (World.drewN_drewN _ _ _) (congrArg (World.drewN _) (Nat.add_assoc _ _ _))⟩)))
 repeat (go_quiet (first | ((with_reducible refine gate_dst (N := 2) rfl ?_); refine box_event ?hg (N := 2) ?hd (cs := #[.slice A0_0 l0_0.length c0_0, .slice A0_1 l0_1.length c0_1]) (t := 56) ?hr ?_; (case hd => rfl); (case hg => rfl); (case hr => first | (go_simp; done) | (go_simp; rfl)); intro gb335 hg w5 hbox hb; have BK335 := aM hbox; have GW335 := aM ((by rw [hg]; exact (below_size (by repeat (first | (with_reducible first | exact HB.out | apply bA | apply bN | apply b1) | exact HB.out))) : w.heap.size ≤ gb335)); have GE335 := aM ((by rw [hg]; exact (below_size (by repeat (first | (with_reducible first | exact HB.out | apply bA | apply bN | apply b1) | exact HB.out))) : w.heap.size ≤ gb335)); replace HB := aM (below_step (by repeat (first | (with_reducible first | exact HB.out | apply bA | apply bN | apply b1) | exact HB.out)) hb); clear hb hbox hg) | ((with_reducible refine gate_dst (N := 3) rfl ?_); refine box_event ?hg (N := 3) ?hd (cs := #[.slice A1_0 l1_0.length c1_0, .slice A1_1 l1_1.length c1_1]) (t := 56) ?hr ?_; (case hd => rfl); (case hg => rfl); (case hr => first | (go_simp; done) | (go_simp; rfl)); intro gb336 hg w6 hbox hb; have BK336 := aM hbox; have GW336 := aM ((by rw [hg]; exact (below_size (by repeat (first | (with_reducible first | exact HB.out | apply bA | apply bN | apply b1 | refine bS ?_ GE335.out) | exact HB.out))) : w.heap.size ≤ gb336)); have GE336 := aM ((by rw [hg]; exact (below_size (by repeat (first | (with_reducible first | exact HB.out | apply bA | apply bN | apply b1 | refine bS ?_ GE335.out) | exact HB.out))) : w.heap.size ≤ gb336)); replace HB := aM (below_step (by repeat (first | (with_reducible first | exact HB.out | apply bA | apply bN | apply b1 | refine bS ?_ GE335.out) | exact HB.out)) hb); have NB335_336 := aM ((by rw [hg]; exact Nat.ne_of_lt (blk_lt (g := gb335) (o := .cells #[.slice A0_0 l0_0.length c0_0, .slice A0_1 l0_1.length c0_1] 56 (0, 0)) (by (with_reducible repeat (first | refine kN ?_ _ | refine kD ?_ | refine kA ?_ _)); exact BK335.out)) : gb335 ≠ gb336)); have NB336_335 := aM ((by rw [hg]; exact Nat.ne_of_gt (blk_lt (g := gb335) (o := .cells #[.slice A0_0 l0_0.length c0_0, .slice A0_1 l0_1.length c0_1] 56 (0, 0)) (by (with_reducible repeat (first | refine kN ?_ _ | refine kD ?_ | refine kA ?_ _)); exact BK335.out)) : gb336 ≠ gb335)); replace BK335 := aM (blk_below (g := gb335) (o := .cells #[.slice A0_0 l0_0.length c0_0, .slice A0_1 l0_1.length c0_1] 56 (0, 0)) (by (with_reducible repeat (first | refine kN ?_ _ | refine kD ?_ | refine kA ?_ _)); exact BK335.out) hb); clear hb hbox hg; have hnb7 := NB335_336.out; have hnc7 := NB336_335.out; have hcz8_0 : w6.cell? ⟨gb335, 0, none⟩ = some (.slice A0_0 l0_0.length c0_0) := (blk_cell BK335.out 0).trans rfl; have hcz8_1 : w6.cell? ⟨gb335, 1, none⟩ = some (.slice A0_1 l0_1.length c0_1) := (blk_cell BK335.out 1).trans rfl; have hfz8_0 := blk_frozen BK335.out 0; have hfz8_1 := blk_frozen BK335.out 1; have hcz9_0 : w6.cell? ⟨gb336, 0, none⟩ = some (.slice A1_0 l1_0.length c1_0) := (blk_cell BK336.out 0).trans rfl; have hcz9_1 : w6.cell? ⟨gb336, 1, none⟩ = some (.slice A1_1 l1_1.length c1_1) := (blk_cell BK336.out 1).trans rfl; have hfz9_0 := blk_frozen BK336.out 0; have hfz9_1 := blk_frozen BK336.out 1) | (go_at_call 68; (with_reducible refine (impl_lcm.calls k (l0_1.length : Int) (l1_1.length : Int) t337 _ A4.out).mono ?_); rintro e w' ⟨rfl, ⟨nd, rfl⟩⟩; (try first | exact ⟨rfl, _, World.drewN_drewN _ _ _⟩ | exact ⟨rfl, _, Eq.trans (World.drewN_drewN _ _ _) (congrArg (World.drewN _) (Nat.add_assoc _ _ _))⟩))); try go_wp2_with (first | ((with_reducible refine gate_dst (N := 2) rfl ?_); refine box_event ?hg (N := 2) ?hd (cs := #[.slice A0_0 l0_0.length c0_0, .slice A0_1 l0_1.length c0_1]) (t := 56) ?hr ?_; (case hd => rfl); (case hg => rfl); (case hr => first | (go_simp; done) | (go_simp; rfl)); intro gb335 hg w5 hbox hb; have BK335 := aM hbox; have GW335 := aM ((by rw [hg]; exact (below_size (by repeat (first | (with_reducible first | exact HB.out | apply bA | apply bN | apply b1) | exact HB.out))) : w.heap.size ≤ gb335)); have GE335 := aM ((by rw [hg]; exact (below_size (by repeat (first | (with_reducible first | exact HB.out | apply bA | apply bN | apply b1) | exact HB.out))) : w.heap.size ≤ gb335)); replace HB := aM (below_step (by repeat (first | (with_reducible first | exact HB.out | apply bA | apply bN | apply b1) | exact HB.out)) hb); clear hb hbox hg) | ((with_reducible refine gate_dst (N := 3) rfl ?_); refine box_event ?hg (N := 3) ?hd (cs := #[.slice A1_0 l1_0.length c1_0, .slice A1_1 l1_1.length c1_1]) (t := 56) ?hr ?_; (case hd => rfl); (case hg => rfl); (case hr => first | (go_simp; done) | (go_simp; rfl)); intro gb336 hg w6 hbox hb; have BK336 := aM hbox; have GW336 := aM ((by rw [hg]; exact (below_size (by repeat (first | (with_reducible first | exact HB.out | apply bA | apply bN | apply b1 | refine bS ?_ GE335.out) | exact HB.out))) : w.heap.size ≤ gb336)); have GE336 := aM ((by rw [hg]; exact (below_size (by repeat (first | (with_reducible first | exact HB.out | apply bA | apply bN | apply b1 | refine bS ?_ GE335.out) | exact HB.out))) : w.heap.size ≤ gb336)); replace HB := aM (below_step (by repeat (first | (with_reducible first | exact HB.out | apply bA | apply bN | apply b1 | refine bS ?_ GE335.out) | exact HB.out)) hb); have NB335_336 := aM ((by rw [hg]; exact Nat.ne_of_lt (blk_lt (g := gb335) (o := .cells #[.slice A0_0 l0_0.length c0_0, .slice A0_1 l0_1.length c0_1] 56 (0, 0)) (by (with_reducible repeat (first | refine kN ?_ _ | refine kD ?_ | refine kA ?_ _)); exact BK335.out)) : gb335 ≠ gb336)); have NB336_335 := aM ((by rw [hg]; exact Nat.ne_of_gt (blk_lt (g := gb335) (o := .cells #[.slice A0_0 l0_0.length c0_0, .slice A0_1 l0_1.length c0_1] 56 (0, 0)) (by (with_reducible repeat (first | refine kN ?_ _ | refine kD ?_ | refine kA ?_ _)); exact BK335.out)) : gb336 ≠ gb335)); replace BK335 := aM (blk_below (g := gb335) (o := .cells #[.slice A0_0 l0_0.length c0_0, .slice A0_1 l0_1.length c0_1] 56 (0, 0)) (by (with_reducible repeat (first | refine kN ?_ _ | refine kD ?_ | refine kA ?_ _)); exact BK335.out) hb); clear hb hbox hg; have hnb7 := NB335_336.out; have hnc7 := NB336_335.out; have hcz8_0 : w6.cell? ⟨gb335, 0, none⟩ = some (.slice A0_0 l0_0.length c0_0) := (blk_cell BK335.out 0).trans rfl; have hcz8_1 : w6.cell? ⟨gb335, 1, none⟩ = some (.slice A0_1 l0_1.length c0_1) := (blk_cell BK335.out 1).trans rfl; have hfz8_0 := blk_frozen BK335.out 0; have hfz8_1 := blk_frozen BK335.out 1; have hcz9_0 : w6.cell? ⟨gb336, 0, none⟩ = some (.slice A1_0 l1_0.length c1_0) := (blk_cell BK336.out 0).trans rfl; have hcz9_1 : w6.cell? ⟨gb336, 1, none⟩ = some (.slice A1_1 l1_1.length c1_1) := (blk_cell BK336.out 1).trans rfl; have hfz9_0 := blk_frozen BK336.out 0; have hfz9_1 := blk_frozen BK336.out 1) | (go_at_call 68; (with_reducible refine (impl_lcm.calls k (l0_1.length : Int) (l1_1.length : Int) t337 _ A4.out).mono ?_); rintro e w' ⟨rfl, ⟨nd, rfl⟩⟩; (try first | exact ⟨rfl, _, World.drewN_drewN _ _ _⟩ | exact ⟨rfl, _, Eq.trans (World.drewN_drewN _ _ _) (congrArg (World.drewN _) (Nat.add_assoc _ _ _))⟩))))
 go_ret2
 exact ⟨by first | rfl | (simp [errW_none, errW_some] <;> rfl) | (simp [errW_none, errW_some]; exact ⟨rfl, rfl⟩) | (simp [errW_none, errW_some]; exact ⟨rfl, rfl, rfl⟩) | (simp only [← hji3]; first | rfl | (simp [errW_none, errW_some] <;> rfl) | (simp [errW_none, errW_some]; exact ⟨rfl, rfl⟩) | (simp [errW_none, errW_some]; exact ⟨rfl, rfl, rfl⟩)) | (simp [*, errW_none, errW_some] <;> rfl), by repeat (first | (with_reducible first | exact HB.out | apply bA | apply bN | apply b1 | refine bS ?_ GE335.out | refine bS ?_ GE336.out) | exact HB.out)⟩


def impl_pair.p (z : Bool → Bool → Bool) (l0 l1 l2 l3 : List Bool) (n : Int) : Option Bool := (impl_set_has.f l0 l1 n).bind fun a => (impl_set_has.f l2 l3 n).bind fun b => some (z a b)
def impl_pair.f (k : Nat) (a0 a1 : ByteArray) (z : Bool → Bool → Bool) : Option (ByteArray × Bool) :=
 (impl_setOf.f a0).bind fun x => (impl_setOf.f a1).bind fun y => if x.2.2 = true then (if y.2.2 = true then (impl_both.f k x.1 x.2.1 y.1 y.2.1).bind fun q => impl_made.f k q.1 q.2 (impl_pair.p z x.1 x.2.1 y.1 y.2.1) else some (⟨#[]⟩, false)) else some (⟨#[]⟩, false)
theorem impl_pair.mono : ∀ a0 a1 z k, LeO (impl_pair.f k a0 a1 z) (impl_pair.f (k + 1) a0 a1 z) := by
 intro a0 a1 z k
 unfold impl_pair.f
 repeat' first | (with_reducible exact impl_both.mono _ _ _ _ _) | (with_reducible exact impl_made.mono _ _ (fun _ => LeO.refl _) _ _ _) | (with_reducible exact LeO.refl _) | (with_reducible refine LeO.ite ?_ ?_) | (with_reducible refine LeO.bind ?_ (fun _ => ?_))
/-- What the function that is handed in answers. -/
def impl_pair.Two (w : World) (g0 : Nat) (z : Bool → Bool → Bool) : Prop := ∀ (a b : Bool) (W : World), Below w.heap.size w W → Calls Try.prog g0 #[.bool a, .bool b] W fun e W' => e = .returned (.bool (z a b)) ∧ Below W.heap.size W W'
def impl_pair.T1 : Bool × List (List Nat × List Nat) := (true, [([], []), ([], []), ([], []), ([1, 2], [1, 2]), ([], []), ([], []), ([4, 5, 3], [4, 5]), ([0, 3, 6, 6], [0, 3, 6]), ([7, 7, 0, 1, 2, 3, 4, 5, 6, 7], [7])])
def impl_pair.B1 : List Nat := [0, 0, 0, 6, 0, 0, 62, 127, 255]
theorem impl_pair.tab1 : rtab .any (opsOf Try.f87 1) = impl_pair.T1 := by kernel_rfl
theorem impl_pair.bits1 : waitsOk impl_pair.T1.2 impl_pair.B1 = true := by kernel_rfl
theorem impl_pair.goesV_ {P : Program} {ops : Array Oper} {Q : Exit → Act → World → Prop} {oi : Oper} {N : Option Tmp} {a : Act} {w : World} {K : Act → World → Prop} {c : Operand} {g : FuncId} {lb : Array Value} (eg : ∀ args w, (callFunc g args).run P w = .ok (.enter g args) w) {ars : Array Operand} {ts : Array TypeId} (args : Array Value)
  (hw : Region.wanted oi (yielded ops a.tmps) = true) (hN : oi.dst = N) (hop : oi.op = .call { callee := .value c, args := ars, argTypes := ts }) (hc : a.eval c = .func (.func g) #[] lb) (hargs : ars.map a.eval = args)
  (h : Calls P g (args ++ lb) w fun e w' => ∃ v, e = .returned v ∧ K (a.put N v) w') : if Region.wanted oi (yielded ops a.tmps) = true then Oper.wp P oi a w K Q else K (a.put N undef) w := by
 refine call_ g (args ++ lb) hw hN ?_ h
 have he := eg (args ++ lb) w
 unfold execOp
 simp [hop, hc, resolve, Deferred.ofValue, invoke, hargs, he]
set_option maxHeartbeats 2000000 in
set_option maxRecDepth 100000 in
theorem impl_pair.lit (g0 : Nat) (z : Bool → Bool → Bool) (w : World) (eg0 : ∀ args w, (callFunc g0 args).run Try.prog w = .ok (.enter g0 args) w) (hz : impl_pair.Two w g0 z)
  (B1 B2 B3 : Nat) (A0 : Option Addr) (c0 : Nat) (l0 : List Bool) (A1 : Option Addr) (c1 : Nat) (l1 : List Bool) (A2 : Option Addr) (c2 : Nat) (l2 : List Bool) (A3 : Option Addr) (c3 : Nat) (l3 : List Bool) (n : Int) (b : Bool) (W : World) (hw : Below w.heap.size w W)
  (h1 : W.heap[B1]? = some (.cells #[.func (.func g0) #[] #[]] 89 (0, 0))) (h2 : W.heap[B2]? = some (.cells #[.slice A0 l0.length c0, .slice A1 l1.length c1] 56 (0, 0))) (h3 : W.heap[B3]? = some (.cells #[.slice A2 l2.length c2, .slice A3 l3.length c3] 56 (0, 0)))
  (r0 : Kd.C Kd.bool W A0 l0.length l0) (q0 : l0.length ≤ c0) (r1 : Kd.C Kd.bool W A1 l1.length l1) (q1 : l1.length ≤ c1) (r2 : Kd.C Kd.bool W A2 l2.length l2) (q2 : l2.length ≤ c2) (r3 : Kd.C Kd.bool W A3 l3.length l3) (q3 : l3.length ≤ c3) (h : impl_pair.p z l0 l1 l2 l3 n = some b) :
  Calls Try.prog 87 #[.int .i64 n, .pointer (some ⟨B1, 0, none⟩), .pointer (some ⟨B2, 0, none⟩), .pointer (some ⟨B3, 0, none⟩)] W fun e W' => e = .returned (.bool b) ∧ Below W.heap.size W W' := by
 unfold impl_pair.p at h
 obtain ⟨x, hx, h⟩ := Option.bind_eq_some_iff.mp h
 obtain ⟨y, hy, h⟩ := Option.bind_eq_some_iff.mp h
 obtain rfl := Option.some.inj h
 have BF := aM h1; have BA := aM h2; have BB := aM h3; have K0 := aM r0; have K1 := aM r1; have K2 := aM r2; have K3 := aM r3; have HX := aM hx; have HY := aM hy; have HZ := aM hz; have EG := aM eg0
 have HW := aM hw; have HB := aM (Below.refl W.heap.size W)
 clear h1 h2 h3 r0 r1 r2 r3 hx hy hz eg0 hw h
 go_enter Try.func87, Try.ntmps87
 go_wp2
 have d0_ := aM (kD BF.out); have d1_ := aM (kD BA.out); have d2_ := aM (kD BB.out); have d3_ := aM (Kd.C_drew K0.out); have d4_ := aM (Kd.C_drew K1.out); have d5_ := aM (Kd.C_drew K2.out); have d6_ := aM (Kd.C_drew K3.out); have d7_ := aM (b1 HB.out); have d8_ := aM (b1 HW.out)
 clear BF BA BB K0 K1 K2 K3 HB HW
 have BF := d0_; have BA := d1_; have BB := d2_; have K0 := d3_; have K1 := d4_; have K2 := d5_; have K3 := d6_; have HB := d7_; have HW := d8_
 clear d0_ d1_ d2_ d3_ d4_ d5_ d6_ d7_ d8_
 refine start_ (n := 9) (S := fun w' => w'.cell? ⟨B1, 0, none⟩ = some (.func (.func g0) #[] #[]) ∧ w'.cell? ⟨B2, 0, none⟩ = some (.slice A0 l0.length c0) ∧ w'.cell? ⟨B2, 1, none⟩ = some (.slice A1 l1.length c1) ∧ w'.cell? ⟨B3, 0, none⟩ = some (.slice A2 l2.length c2) ∧ w'.cell? ⟨B3, 1, none⟩ = some (.slice A3 l3.length c3)) (ds := []) #[false, false, false, false, false, false, false, false, false] (by kernel_rfl) rfl rfl ⟨(blk_cell BF.out 0).trans rfl, (blk_cell BA.out 0).trans rfl, (blk_cell BA.out 1).trans rfl, (blk_cell BB.out 0).trans rfl, (blk_cell BB.out 1).trans rfl⟩ (fun hHeld => ?_); refine with_tabW impl_pair.tab1 impl_pair.bits1 (fun HT_ HW_ => ?_)
 generalize W.drew = W1 at BF BA BB K0 K1 K2 K3 HB HW hHeld ⊢
 refine pure_ (i := 2) (N := some 8) (v := ?_) (a' := ?_) #[false, false, true, false, false, false, false, false, false] rfl rfl (any_of HT_.out (by kernel_rfl)) (fun _ _ _ h => h) (Or.inl ⟨by rfl, ?_⟩) ?_ ?_
 rotate_left
 ·intro w'
  go_simp
  with_reducible rfl
 rotate_left
 ·simp only [Act.put, sA, sZ, sS, i64_w, i32_w]
  rfl
 refine pure_ (i := 5) (N := some 11) (v := ?_) (a' := ?_) #[false, false, true, false, false, true, false, false, false] rfl rfl (any_of HT_.out (by kernel_rfl)) (fun _ _ _ h => h) (Or.inl ⟨by rfl, ?_⟩) ?_ ?_
 rotate_left
 ·intro w'
  go_simp
  with_reducible rfl
 rotate_left
 ·simp only [Act.put, sA, sZ, sS, i64_w, i32_w]
  rfl
 refine take_ (i := 0) (N := some 6) (v := ?_) (a' := ?_) #[true, false, true, false, false, true, false, false, false] rfl rfl (take_ofW HT_.out HW_.out (by kernel_rfl)) (fun _ _ _ h => h) (Or.inl ⟨by rfl, ?_⟩) hHeld ?_ ?_
 rotate_left
 ·rintro w' ⟨s0, s1, s2, s3, s4⟩
  go_simp
  with_reducible rfl
 rotate_left
 ·simp only [Act.put, sA, sZ, sS, i64_w, i32_w]
  rfl
 refine take_ (i := 1) (N := some 7) (v := ?_) (a' := ?_) #[true, true, true, false, false, true, false, false, false] rfl rfl (take_ofW HT_.out HW_.out (by kernel_rfl)) (fun _ _ _ h => h) (Or.inl ⟨by rfl, ?_⟩) hHeld ?_ ?_
 rotate_left
 ·rintro w' ⟨s0, s1, s2, s3, s4⟩
  go_simp
  with_reducible rfl
 rotate_left
 ·simp only [Act.put, sA, sZ, sS, i64_w, i32_w]
  rfl
 refine take_ (i := 4) (N := some 10) (v := ?_) (a' := ?_) #[true, true, true, false, true, true, false, false, false] rfl rfl (take_ofW HT_.out HW_.out (by kernel_rfl)) (fun _ _ _ h => h) (Or.inl ⟨by rfl, ?_⟩) hHeld ?_ ?_
 rotate_left
 ·rintro w' ⟨s0, s1, s2, s3, s4⟩
  go_simp
  with_reducible rfl
 rotate_left
 ·simp only [Act.put, sA, sZ, sS, i64_w, i32_w]
  rfl
 refine one_ (i := 3) (N := some 9) #[true, true, true, true, true, true, false, false, false] rfl rfl (one_of HT_.out (by kernel_rfl)) (by decide) (fun K hK => ?_)
 refine goes_ Try.func33 (by kernel_rfl) rfl #[.agg #[.slice A0 l0.length c0, .slice A1 l1.length c1], .int .i64 n] (by rfl) rfl rfl (by (try simp only [List.map_toArray, List.map_cons, List.map_nil]); rfl) ?_
 refine (impl_set_has.calls A0 c0 l0 A1 c1 l1 n x _ K0.out q0 K1.out q1 HX.out).mono ?_
 rintro e w1 ⟨rfl, hb⟩
 refine ⟨_, rfl, ?_⟩
 replace BF := aM (blk_below BF.out hb)
 replace BA := aM (blk_below BA.out hb)
 replace BB := aM (blk_below BB.out hb)
 replace K0 := aM (Kd.C_below K0.out hb)
 replace K1 := aM (Kd.C_below K1.out hb)
 replace K2 := aM (Kd.C_below K2.out hb)
 replace K3 := aM (Kd.C_below K3.out hb)
 replace HB := aM (below_step HB.out hb)
 replace HW := aM (below_step HW.out hb)
 clear hb
 refine hK.out _ _ ⟨(blk_cell BF.out 0).trans rfl, (blk_cell BA.out 0).trans rfl, (blk_cell BA.out 1).trans rfl, (blk_cell BB.out 0).trans rfl, (blk_cell BB.out 1).trans rfl⟩ (fun hHeld => ?_)
 clear hK K
 refine norm_ (a' := ?_) ?_ ?_
 rotate_left
 ·show Act.put _ (some 9) _ = _
  simp only [Act.put, sA, sZ, sS, i64_w, i32_w]
  rfl
 refine one_ (i := 6) (N := some 12) #[true, true, true, true, true, true, true, false, false] rfl rfl (one_of HT_.out (by kernel_rfl)) (by decide) (fun K hK => ?_)
 refine goes_ Try.func33 (by kernel_rfl) rfl #[.agg #[.slice A2 l2.length c2, .slice A3 l3.length c3], .int .i64 n] (by rfl) rfl rfl (by (try simp only [List.map_toArray, List.map_cons, List.map_nil]); rfl) ?_
 refine (impl_set_has.calls A2 c2 l2 A3 c3 l3 n y _ K2.out q2 K3.out q3 HY.out).mono ?_
 rintro e w1 ⟨rfl, hb⟩
 refine ⟨_, rfl, ?_⟩
 replace BF := aM (blk_below BF.out hb)
 replace BA := aM (blk_below BA.out hb)
 replace BB := aM (blk_below BB.out hb)
 replace K0 := aM (Kd.C_below K0.out hb)
 replace K1 := aM (Kd.C_below K1.out hb)
 replace K2 := aM (Kd.C_below K2.out hb)
 replace K3 := aM (Kd.C_below K3.out hb)
 replace HB := aM (below_step HB.out hb)
 replace HW := aM (below_step HW.out hb)
 clear hb
 refine hK.out _ _ ⟨(blk_cell BF.out 0).trans rfl, (blk_cell BA.out 0).trans rfl, (blk_cell BA.out 1).trans rfl, (blk_cell BB.out 0).trans rfl, (blk_cell BB.out 1).trans rfl⟩ (fun hHeld => ?_)
 clear hK K
 refine norm_ (a' := ?_) ?_ ?_
 rotate_left
 ·show Act.put _ (some 12) _ = _
  simp only [Act.put, sA, sZ, sS, i64_w, i32_w]
  rfl
 refine one_ (i := 7) (N := some 13) #[true, true, true, true, true, true, true, true, false] rfl rfl (one_of HT_.out (by kernel_rfl)) (by decide) (fun K hK => ?_)
 refine impl_pair.goesV_ EG.out #[.bool x, .bool y] (by rfl) rfl rfl (by rfl) (by (try simp only [List.map_toArray, List.map_cons, List.map_nil]); rfl) ?_
 refine (HZ.out x y _ HW.out).mono ?_
 rintro e w1 ⟨rfl, hb⟩
 refine ⟨_, rfl, ?_⟩
 replace BF := aM (blk_below BF.out hb)
 replace BA := aM (blk_below BA.out hb)
 replace BB := aM (blk_below BB.out hb)
 replace K0 := aM (Kd.C_below K0.out hb)
 replace K1 := aM (Kd.C_below K1.out hb)
 replace K2 := aM (Kd.C_below K2.out hb)
 replace K3 := aM (Kd.C_below K3.out hb)
 replace HB := aM (below_step HB.out hb)
 replace HW := aM (below_step HW.out hb)
 clear hb
 refine hK.out _ _ ⟨(blk_cell BF.out 0).trans rfl, (blk_cell BA.out 0).trans rfl, (blk_cell BA.out 1).trans rfl, (blk_cell BB.out 0).trans rfl, (blk_cell BB.out 1).trans rfl⟩ (fun hHeld => ?_)
 clear hK K
 refine norm_ (a' := ?_) ?_ ?_
 rotate_left
 ·show Act.put _ (some 13) _ = _
  simp only [Act.put, sA, sZ, sS, i64_w, i32_w]
  rfl
 refine pure_ (i := 8) (N := some 5) (v := ?_) (a' := ?_) #[true, true, true, true, true, true, true, true, true] rfl rfl (any_of HT_.out (by kernel_rfl)) (fun _ _ _ h => h) (Or.inl ⟨by rfl, ?_⟩) ?_ ?_
 rotate_left
 ·intro w'
  go_simp
  with_reducible rfl
 rotate_left
 ·simp only [Act.put, sA, sZ, sS, i64_w, i32_w]
  rfl
 refine done_ (done_of HT_.out (by kernel_rfl)) ?_
 try go_wp2
 go_ret
 exact ⟨rfl, HB.out⟩
set_option maxHeartbeats 4000000 in
set_option maxRecDepth 100000 in
theorem impl_pair.calls (k : Nat) (a0 a1 : ByteArray) (g0 : Nat) (z : Bool → Bool → Bool) (r1' : ByteArray) (r2' : Bool) (w : World) (eg0 : ∀ args w, (callFunc g0 args).run Try.prog w = .ok (.enter g0 args) w) (hz : impl_pair.Two w g0 z) (h : impl_pair.f k a0 a1 z = some (r1', r2')) :
  Calls Try.prog 64 #[.string a0, .string a1, .func (.func g0) #[] #[]] w fun e w' => e = .returned (.tuple #[.string r1', .bool r2']) ∧ Below w.heap.size w w' := by
 have hmf : ∀ (fn : Fn) (first cap : Array Value) (w : World), (Instr.makeFunc fn first cap).run Try.prog w = .ok (.func fn first cap) w := fun _ _ _ _ => rfl
 unfold impl_pair.f at h
 obtain ⟨⟨t0, r0, o0⟩, hs, h⟩ := Option.bind_eq_some_iff.mp h
 obtain ⟨⟨t1, r1, o1⟩, hu, h⟩ := Option.bind_eq_some_iff.mp h
 have HZ := aM hz; have EG := aM eg0
 clear hz eg0
 have BZ := aM (blk_new w (.cells #[.func (.func g0) #[] #[]] 89))
 have HB : Aside0 (Below w.heap.size w (w.alloc (.cells #[.func (.func g0) #[] #[]] 89))) := ⟨(Below.refl _ w).alloc (Nat.le_refl _) _⟩
 cases o0 with
 | false =>
  simp only [Bool.false_eq_true, if_false, Option.some.injEq, Prod.mk.injEq] at h
  obtain ⟨rfl, rfl⟩ := h
  have HS := aM hs
  cases o1 with
  | false =>
   have HU := aM hu
   clear hs hu
   go_enter Try.func64, Try.ntmps64
   go_wp2_with (first | ((with_reducible refine gate_callee (f := 32) rfl ?_); refine goesL_ (some 16) rfl rfl Try.func32 (by kernel_rfl) rfl #[.string a0] rfl (by (try simp only [List.map_toArray, List.map_cons, List.map_nil]); rfl) ?_; refine (impl_setOf.calls a0 t0 r0 false _ HS.out).mono ?_; rintro e w0 ⟨v0, v1, rfl, ho0, ho1, hb⟩; refine ⟨_, rfl, ?_⟩; obtain ⟨A0, c0, rfl, q0, k0⟩ := Kd.R_reads ho0; obtain ⟨A1, c1, rfl, q1, k1⟩ := Kd.R_reads ho1; replace BZ := aM (blk_below BZ.out hb); replace HB := aM (below_step HB.out hb); have K0 := aM k0; have K1 := aM k1; (try clear hb)) | ((with_reducible refine gate_dst (N := 8) rfl ?_); refine box_event ?hg (N := 8) ?hd (cs := #[.slice none 0 0, .slice none 0 0]) (t := 56) ?hr ?_; (case hd => rfl); (case hg => rfl); (case hr => first | (go_simp; done)); intro gb0 hg wb0 hbox hb; have cb00_ := blk_cell hbox 0; have fb00_ := blk_frozen hbox 0; have cb01_ := blk_cell hbox 1; have fb01_ := blk_frozen hbox 1; have hbs := ((hb).setCell (p := ⟨gb0, 0, none⟩) (by rw [hg]; exact Nat.le_refl _) (.slice A0 t0.length c0)).setCell (p := ⟨gb0, 1, none⟩) (by rw [hg]; exact Nat.le_refl _) (.slice A1 r0.length c1); replace BZ := aM (blk_below BZ.out hbs); replace HB := aM (below_step HB.out hbs); replace K0 := aM (Kd.C_below K0.out hbs); replace K1 := aM (Kd.C_below K1.out hbs); have BA := aM (impl_starred.set2 (u' := .slice A0 t0.length c0) (v' := .slice A1 r0.length c1) hbox); clear hg hb hbox hbs) | ((with_reducible refine gate_callee (f := 32) rfl ?_); refine goesL_ (some 21) rfl rfl Try.func32 (by kernel_rfl) rfl #[.string a1] rfl (by (try simp only [List.map_toArray, List.map_cons, List.map_nil]); rfl) ?_; refine (impl_setOf.calls a1 t1 r1 false _ HU.out).mono ?_; rintro e w1 ⟨v0, v1, rfl, ho0, ho1, hb⟩; refine ⟨_, rfl, ?_⟩; obtain ⟨A2, c2, rfl, q2, k0⟩ := Kd.R_reads ho0; obtain ⟨A3, c3, rfl, q3, k1⟩ := Kd.R_reads ho1; replace BZ := aM (blk_below BZ.out hb); replace HB := aM (below_step HB.out hb); replace K0 := aM (Kd.C_below K0.out hb); replace K1 := aM (Kd.C_below K1.out hb); replace BA := aM (blk_below BA.out hb); have K2 := aM k0; have K3 := aM k1; (try clear hb)) | ((with_reducible refine gate_dst (N := 10) rfl ?_); refine box_event ?hg (N := 10) ?hd (cs := #[.slice none 0 0, .slice none 0 0]) (t := 56) ?hr ?_; (case hd => rfl); (case hg => rfl); (case hr => first | (go_simp; done)); intro gb1 hg wb1 hbox hb; have cb10_ := blk_cell hbox 0; have fb10_ := blk_frozen hbox 0; have cb11_ := blk_cell hbox 1; have fb11_ := blk_frozen hbox 1; have x0_ : wb1.cell? ⟨gb0, 0, none⟩ = some (.slice A0 t0.length c0) := blk_cell (blk_below BA.out hb) 0; have x1_ : wb1.cell? ⟨gb0, 1, none⟩ = some (.slice A1 r0.length c1) := blk_cell (blk_below BA.out hb) 1; have xn_ : gb0 ≠ gb1 := (by have := blk_lt BA.out; omega); have xm_ : gb1 ≠ gb0 := (by omega); have hbs := ((hb).setCell (p := ⟨gb1, 0, none⟩) (by rw [hg]; exact Nat.le_refl _) (.slice A2 t1.length c2)).setCell (p := ⟨gb1, 1, none⟩) (by rw [hg]; exact Nat.le_refl _) (.slice A3 r1.length c3); replace BZ := aM (blk_below BZ.out hbs); replace HB := aM (below_step HB.out hbs); replace K0 := aM (Kd.C_below K0.out hbs); replace K1 := aM (Kd.C_below K1.out hbs); replace BA := aM (blk_below BA.out hbs); replace K2 := aM (Kd.C_below K2.out hbs); replace K3 := aM (Kd.C_below K3.out hbs); have BB := aM (impl_starred.set2 (u' := .slice A2 t1.length c2) (v' := .slice A3 r1.length c3) hbox); clear hg hb hbox hbs))
   go_ret2
   exact ⟨rfl, HB.out⟩
  | true =>
   have HU := aM hu
   clear hs hu
   go_enter Try.func64, Try.ntmps64
   go_wp2_with (first | ((with_reducible refine gate_callee (f := 32) rfl ?_); refine goesL_ (some 16) rfl rfl Try.func32 (by kernel_rfl) rfl #[.string a0] rfl (by (try simp only [List.map_toArray, List.map_cons, List.map_nil]); rfl) ?_; refine (impl_setOf.calls a0 t0 r0 false _ HS.out).mono ?_; rintro e w0 ⟨v0, v1, rfl, ho0, ho1, hb⟩; refine ⟨_, rfl, ?_⟩; obtain ⟨A0, c0, rfl, q0, k0⟩ := Kd.R_reads ho0; obtain ⟨A1, c1, rfl, q1, k1⟩ := Kd.R_reads ho1; replace BZ := aM (blk_below BZ.out hb); replace HB := aM (below_step HB.out hb); have K0 := aM k0; have K1 := aM k1; (try clear hb)) | ((with_reducible refine gate_dst (N := 8) rfl ?_); refine box_event ?hg (N := 8) ?hd (cs := #[.slice none 0 0, .slice none 0 0]) (t := 56) ?hr ?_; (case hd => rfl); (case hg => rfl); (case hr => first | (go_simp; done)); intro gb0 hg wb0 hbox hb; have cb00_ := blk_cell hbox 0; have fb00_ := blk_frozen hbox 0; have cb01_ := blk_cell hbox 1; have fb01_ := blk_frozen hbox 1; have hbs := ((hb).setCell (p := ⟨gb0, 0, none⟩) (by rw [hg]; exact Nat.le_refl _) (.slice A0 t0.length c0)).setCell (p := ⟨gb0, 1, none⟩) (by rw [hg]; exact Nat.le_refl _) (.slice A1 r0.length c1); replace BZ := aM (blk_below BZ.out hbs); replace HB := aM (below_step HB.out hbs); replace K0 := aM (Kd.C_below K0.out hbs); replace K1 := aM (Kd.C_below K1.out hbs); have BA := aM (impl_starred.set2 (u' := .slice A0 t0.length c0) (v' := .slice A1 r0.length c1) hbox); clear hg hb hbox hbs) | ((with_reducible refine gate_callee (f := 32) rfl ?_); refine goesL_ (some 21) rfl rfl Try.func32 (by kernel_rfl) rfl #[.string a1] rfl (by (try simp only [List.map_toArray, List.map_cons, List.map_nil]); rfl) ?_; refine (impl_setOf.calls a1 t1 r1 true _ HU.out).mono ?_; rintro e w1 ⟨v0, v1, rfl, ho0, ho1, hb⟩; refine ⟨_, rfl, ?_⟩; obtain ⟨A2, c2, rfl, q2, k0⟩ := Kd.R_reads ho0; obtain ⟨A3, c3, rfl, q3, k1⟩ := Kd.R_reads ho1; replace BZ := aM (blk_below BZ.out hb); replace HB := aM (below_step HB.out hb); replace K0 := aM (Kd.C_below K0.out hb); replace K1 := aM (Kd.C_below K1.out hb); replace BA := aM (blk_below BA.out hb); have K2 := aM k0; have K3 := aM k1; (try clear hb)) | ((with_reducible refine gate_dst (N := 10) rfl ?_); refine box_event ?hg (N := 10) ?hd (cs := #[.slice none 0 0, .slice none 0 0]) (t := 56) ?hr ?_; (case hd => rfl); (case hg => rfl); (case hr => first | (go_simp; done)); intro gb1 hg wb1 hbox hb; have cb10_ := blk_cell hbox 0; have fb10_ := blk_frozen hbox 0; have cb11_ := blk_cell hbox 1; have fb11_ := blk_frozen hbox 1; have x0_ : wb1.cell? ⟨gb0, 0, none⟩ = some (.slice A0 t0.length c0) := blk_cell (blk_below BA.out hb) 0; have x1_ : wb1.cell? ⟨gb0, 1, none⟩ = some (.slice A1 r0.length c1) := blk_cell (blk_below BA.out hb) 1; have xn_ : gb0 ≠ gb1 := (by have := blk_lt BA.out; omega); have xm_ : gb1 ≠ gb0 := (by omega); have hbs := ((hb).setCell (p := ⟨gb1, 0, none⟩) (by rw [hg]; exact Nat.le_refl _) (.slice A2 t1.length c2)).setCell (p := ⟨gb1, 1, none⟩) (by rw [hg]; exact Nat.le_refl _) (.slice A3 r1.length c3); replace BZ := aM (blk_below BZ.out hbs); replace HB := aM (below_step HB.out hbs); replace K0 := aM (Kd.C_below K0.out hbs); replace K1 := aM (Kd.C_below K1.out hbs); replace BA := aM (blk_below BA.out hbs); replace K2 := aM (Kd.C_below K2.out hbs); replace K3 := aM (Kd.C_below K3.out hbs); have BB := aM (impl_starred.set2 (u' := .slice A2 t1.length c2) (v' := .slice A3 r1.length c3) hbox); clear hg hb hbox hbs))
   go_ret2
   exact ⟨rfl, HB.out⟩
 | true =>
  have HS := aM hs
  cases o1 with
  | false =>
   simp only [Bool.false_eq_true, if_false, if_true, Option.some.injEq, Prod.mk.injEq] at h
   obtain ⟨rfl, rfl⟩ := h
   have HU := aM hu
   clear hs hu
   go_enter Try.func64, Try.ntmps64
   go_wp2_with (first | ((with_reducible refine gate_callee (f := 32) rfl ?_); refine goesL_ (some 16) rfl rfl Try.func32 (by kernel_rfl) rfl #[.string a0] rfl (by (try simp only [List.map_toArray, List.map_cons, List.map_nil]); rfl) ?_; refine (impl_setOf.calls a0 t0 r0 true _ HS.out).mono ?_; rintro e w0 ⟨v0, v1, rfl, ho0, ho1, hb⟩; refine ⟨_, rfl, ?_⟩; obtain ⟨A0, c0, rfl, q0, k0⟩ := Kd.R_reads ho0; obtain ⟨A1, c1, rfl, q1, k1⟩ := Kd.R_reads ho1; replace BZ := aM (blk_below BZ.out hb); replace HB := aM (below_step HB.out hb); have K0 := aM k0; have K1 := aM k1; (try clear hb)) | ((with_reducible refine gate_dst (N := 8) rfl ?_); refine box_event ?hg (N := 8) ?hd (cs := #[.slice none 0 0, .slice none 0 0]) (t := 56) ?hr ?_; (case hd => rfl); (case hg => rfl); (case hr => first | (go_simp; done)); intro gb0 hg wb0 hbox hb; have cb00_ := blk_cell hbox 0; have fb00_ := blk_frozen hbox 0; have cb01_ := blk_cell hbox 1; have fb01_ := blk_frozen hbox 1; have hbs := ((hb).setCell (p := ⟨gb0, 0, none⟩) (by rw [hg]; exact Nat.le_refl _) (.slice A0 t0.length c0)).setCell (p := ⟨gb0, 1, none⟩) (by rw [hg]; exact Nat.le_refl _) (.slice A1 r0.length c1); replace BZ := aM (blk_below BZ.out hbs); replace HB := aM (below_step HB.out hbs); replace K0 := aM (Kd.C_below K0.out hbs); replace K1 := aM (Kd.C_below K1.out hbs); have BA := aM (impl_starred.set2 (u' := .slice A0 t0.length c0) (v' := .slice A1 r0.length c1) hbox); clear hg hb hbox hbs) | ((with_reducible refine gate_callee (f := 32) rfl ?_); refine goesL_ (some 21) rfl rfl Try.func32 (by kernel_rfl) rfl #[.string a1] rfl (by (try simp only [List.map_toArray, List.map_cons, List.map_nil]); rfl) ?_; refine (impl_setOf.calls a1 t1 r1 false _ HU.out).mono ?_; rintro e w1 ⟨v0, v1, rfl, ho0, ho1, hb⟩; refine ⟨_, rfl, ?_⟩; obtain ⟨A2, c2, rfl, q2, k0⟩ := Kd.R_reads ho0; obtain ⟨A3, c3, rfl, q3, k1⟩ := Kd.R_reads ho1; replace BZ := aM (blk_below BZ.out hb); replace HB := aM (below_step HB.out hb); replace K0 := aM (Kd.C_below K0.out hb); replace K1 := aM (Kd.C_below K1.out hb); replace BA := aM (blk_below BA.out hb); have K2 := aM k0; have K3 := aM k1; (try clear hb)) | ((with_reducible refine gate_dst (N := 10) rfl ?_); refine box_event ?hg (N := 10) ?hd (cs := #[.slice none 0 0, .slice none 0 0]) (t := 56) ?hr ?_; (case hd => rfl); (case hg => rfl); (case hr => first | (go_simp; done)); intro gb1 hg wb1 hbox hb; have cb10_ := blk_cell hbox 0; have fb10_ := blk_frozen hbox 0; have cb11_ := blk_cell hbox 1; have fb11_ := blk_frozen hbox 1; have x0_ : wb1.cell? ⟨gb0, 0, none⟩ = some (.slice A0 t0.length c0) := blk_cell (blk_below BA.out hb) 0; have x1_ : wb1.cell? ⟨gb0, 1, none⟩ = some (.slice A1 r0.length c1) := blk_cell (blk_below BA.out hb) 1; have xn_ : gb0 ≠ gb1 := (by have := blk_lt BA.out; omega); have xm_ : gb1 ≠ gb0 := (by omega); have hbs := ((hb).setCell (p := ⟨gb1, 0, none⟩) (by rw [hg]; exact Nat.le_refl _) (.slice A2 t1.length c2)).setCell (p := ⟨gb1, 1, none⟩) (by rw [hg]; exact Nat.le_refl _) (.slice A3 r1.length c3); replace BZ := aM (blk_below BZ.out hbs); replace HB := aM (below_step HB.out hbs); replace K0 := aM (Kd.C_below K0.out hbs); replace K1 := aM (Kd.C_below K1.out hbs); replace BA := aM (blk_below BA.out hbs); replace K2 := aM (Kd.C_below K2.out hbs); replace K3 := aM (Kd.C_below K3.out hbs); have BB := aM (impl_starred.set2 (u' := .slice A2 t1.length c2) (v' := .slice A3 r1.length c3) hbox); clear hg hb hbox hbs))
   go_ret2
   exact ⟨rfl, HB.out⟩
  | true =>
   simp only [if_true] at h
   obtain ⟨⟨qa, qb⟩, hq, h⟩ := Option.bind_eq_some_iff.mp h
   have HU := aM hu; have HQ := aM hq; have H := aM h
   clear hs hu hq h
   go_enter Try.func64, Try.ntmps64
   go_wp2_with (first | ((with_reducible refine gate_callee (f := 32) rfl ?_); refine goesL_ (some 16) rfl rfl Try.func32 (by kernel_rfl) rfl #[.string a0] rfl (by (try simp only [List.map_toArray, List.map_cons, List.map_nil]); rfl) ?_; refine (impl_setOf.calls a0 t0 r0 true _ HS.out).mono ?_; rintro e w0 ⟨v0, v1, rfl, ho0, ho1, hb⟩; refine ⟨_, rfl, ?_⟩; obtain ⟨A0, c0, rfl, q0, k0⟩ := Kd.R_reads ho0; obtain ⟨A1, c1, rfl, q1, k1⟩ := Kd.R_reads ho1; replace BZ := aM (blk_below BZ.out hb); replace HB := aM (below_step HB.out hb); have K0 := aM k0; have K1 := aM k1; (try clear hb)) | ((with_reducible refine gate_dst (N := 8) rfl ?_); refine box_event ?hg (N := 8) ?hd (cs := #[.slice none 0 0, .slice none 0 0]) (t := 56) ?hr ?_; (case hd => rfl); (case hg => rfl); (case hr => first | (go_simp; done)); intro gb0 hg wb0 hbox hb; have cb00_ := blk_cell hbox 0; have fb00_ := blk_frozen hbox 0; have cb01_ := blk_cell hbox 1; have fb01_ := blk_frozen hbox 1; have hbs := ((hb).setCell (p := ⟨gb0, 0, none⟩) (by rw [hg]; exact Nat.le_refl _) (.slice A0 t0.length c0)).setCell (p := ⟨gb0, 1, none⟩) (by rw [hg]; exact Nat.le_refl _) (.slice A1 r0.length c1); replace BZ := aM (blk_below BZ.out hbs); replace HB := aM (below_step HB.out hbs); replace K0 := aM (Kd.C_below K0.out hbs); replace K1 := aM (Kd.C_below K1.out hbs); have BA := aM (impl_starred.set2 (u' := .slice A0 t0.length c0) (v' := .slice A1 r0.length c1) hbox); clear hg hb hbox hbs) | ((with_reducible refine gate_callee (f := 32) rfl ?_); refine goesL_ (some 21) rfl rfl Try.func32 (by kernel_rfl) rfl #[.string a1] rfl (by (try simp only [List.map_toArray, List.map_cons, List.map_nil]); rfl) ?_; refine (impl_setOf.calls a1 t1 r1 true _ HU.out).mono ?_; rintro e w1 ⟨v0, v1, rfl, ho0, ho1, hb⟩; refine ⟨_, rfl, ?_⟩; obtain ⟨A2, c2, rfl, q2, k0⟩ := Kd.R_reads ho0; obtain ⟨A3, c3, rfl, q3, k1⟩ := Kd.R_reads ho1; replace BZ := aM (blk_below BZ.out hb); replace HB := aM (below_step HB.out hb); replace K0 := aM (Kd.C_below K0.out hb); replace K1 := aM (Kd.C_below K1.out hb); replace BA := aM (blk_below BA.out hb); have K2 := aM k0; have K3 := aM k1; (try clear hb)) | ((with_reducible refine gate_dst (N := 10) rfl ?_); refine box_event ?hg (N := 10) ?hd (cs := #[.slice none 0 0, .slice none 0 0]) (t := 56) ?hr ?_; (case hd => rfl); (case hg => rfl); (case hr => first | (go_simp; done)); intro gb1 hg wb1 hbox hb; have cb10_ := blk_cell hbox 0; have fb10_ := blk_frozen hbox 0; have cb11_ := blk_cell hbox 1; have fb11_ := blk_frozen hbox 1; have x0_ : wb1.cell? ⟨gb0, 0, none⟩ = some (.slice A0 t0.length c0) := blk_cell (blk_below BA.out hb) 0; have x1_ : wb1.cell? ⟨gb0, 1, none⟩ = some (.slice A1 r0.length c1) := blk_cell (blk_below BA.out hb) 1; have xn_ : gb0 ≠ gb1 := (by have := blk_lt BA.out; omega); have xm_ : gb1 ≠ gb0 := (by omega); have hbs := ((hb).setCell (p := ⟨gb1, 0, none⟩) (by rw [hg]; exact Nat.le_refl _) (.slice A2 t1.length c2)).setCell (p := ⟨gb1, 1, none⟩) (by rw [hg]; exact Nat.le_refl _) (.slice A3 r1.length c3); replace BZ := aM (blk_below BZ.out hbs); replace HB := aM (below_step HB.out hbs); replace K0 := aM (Kd.C_below K0.out hbs); replace K1 := aM (Kd.C_below K1.out hbs); replace BA := aM (blk_below BA.out hbs); replace K2 := aM (Kd.C_below K2.out hbs); replace K3 := aM (Kd.C_below K3.out hbs); have BB := aM (impl_starred.set2 (u' := .slice A2 t1.length c2) (v' := .slice A3 r1.length c3) hbox); clear hg hb hbox hbs) | ((with_reducible refine gate_callee (f := 86) rfl ?_); refine goesL_ (some 33) rfl rfl Try.func86 (by kernel_rfl) rfl #[.agg #[.slice A0 t0.length c0, .slice A1 r0.length c1], .agg #[.slice A2 t1.length c2, .slice A3 r1.length c3]] rfl (by (try simp only [List.map_toArray, List.map_cons, List.map_nil]); rfl) ?_; refine (impl_both.calls k A0 c0 t0 A1 c1 r0 A2 c2 t1 A3 c3 r1 qa qb _ K0.out q0 K1.out q1 K2.out q2 K3.out q3 HQ.out).mono ?_; (try clear cb00_ cb01_ cb10_ cb11_ fb00_ fb01_ fb10_ fb11_ x0_ x1_); rintro e w5 ⟨rfl, hb⟩; refine ⟨_, rfl, ?_⟩; replace BZ := aM (blk_below BZ.out hb); replace HB := aM (below_step HB.out hb); replace K0 := aM (Kd.C_below K0.out hb); replace K1 := aM (Kd.C_below K1.out hb); replace BA := aM (blk_below BA.out hb); replace K2 := aM (Kd.C_below K2.out hb); replace K3 := aM (Kd.C_below K3.out hb); replace BB := aM (blk_below BB.out hb); have e0_ : w5.cell? ⟨gb0, 0, none⟩ = some (.slice A0 t0.length c0) := blk_cell BA.out 0; (try clear hb)) | ((with_reducible refine gate_callee (f := 67) rfl ?_); refine goesL_ (some 39) rfl rfl Try.func67 (by kernel_rfl) rfl #[.int .i64 qa, .int .i64 qb, .func (.func 87) #[] #[.pointer (some ⟨w.heap.size, 0, none⟩), .pointer (some ⟨gb0, 0, none⟩), .pointer (some ⟨gb1, 0, none⟩)]] rfl (by (try simp only [List.map_toArray, List.map_cons, List.map_nil]); rfl) ?_; refine (impl_made.calls k qa qb (impl_pair.p z t0 r0 t1 r1) 87 #[.pointer (some ⟨w.heap.size, 0, none⟩), .pointer (some ⟨gb0, 0, none⟩), .pointer (some ⟨gb1, 0, none⟩)] r1' r2' _ (fun args_ w_ => enters_ Try.func87 (by kernel_rfl) rfl args_ w_) ?hpx H.out).mono ?_; (case hpx => intro n_ b_ W_ hW_ hb_; exact impl_pair.lit g0 z w EG.out HZ.out w.heap.size gb0 gb1 A0 c0 t0 A1 c1 r0 A2 c2 t1 A3 c3 r1 n_ b_ W_ (below_step HB.out hW_) (blk_below BZ.out hW_) (blk_below BA.out hW_) (blk_below BB.out hW_) (Kd.C_below K0.out hW_) q0 (Kd.C_below K1.out hW_) q1 (Kd.C_below K2.out hW_) q2 (Kd.C_below K3.out hW_) q3 hb_); rintro e w6 ⟨rfl, hb⟩; refine ⟨_, rfl, ?_⟩; replace BZ := aM (blk_below BZ.out hb); replace HB := aM (below_step HB.out hb); replace K0 := aM (Kd.C_below K0.out hb); replace K1 := aM (Kd.C_below K1.out hb); replace BA := aM (blk_below BA.out hb); replace K2 := aM (Kd.C_below K2.out hb); replace K3 := aM (Kd.C_below K3.out hb); replace BB := aM (blk_below BB.out hb); (try clear hb)))
   go_ret2
   exact ⟨rfl, HB.out⟩
def impl_MakeEither.f (k : Nat) (a0 a1 : ByteArray) : Option (ByteArray × Bool) := impl_pair.f k a0 a1 (fun a b => a || b)
theorem impl_MakeEither.mono : ∀ a0 a1 k, LeO (impl_MakeEither.f k a0 a1) (impl_MakeEither.f (k + 1) a0 a1) := fun a0 a1 k => impl_pair.mono a0 a1 _ k
set_option maxHeartbeats 1000000 in
set_option maxRecDepth 100000 in
theorem impl_MakeEither.two (w : World) : impl_pair.Two w 65 (fun a b => a || b) := by
 intro a b W hw
 clear hw
 cases a with
 | false =>
  go_enter Try.func65, Try.ntmps65
  go_wp2
  go_ret
  exact ⟨rfl, Below.refl _ _⟩
 | true =>
  go_enter Try.func65, Try.ntmps65
  go_wp2
  go_ret
  exact ⟨rfl, Below.refl _ _⟩
set_option maxHeartbeats 1000000 in
set_option maxRecDepth 100000 in
theorem impl_MakeEither.calls (k : Nat) (a0 : ByteArray) (a1 : ByteArray) (r1 : ByteArray) (r2 : Bool) (w : World) (h : impl_MakeEither.f k a0 a1 = some (r1, r2)) :
  Calls Try.prog 47 #[.string a0, .string a1] w fun e w' => e = .returned (.tuple #[.string r1, .bool r2]) ∧ Below w.heap.size w w' := by
 have C := impl_pair.calls k a0 a1 65 _ r1 r2 w (fun args_ w_ => enters_ Try.func65 (by kernel_rfl) rfl args_ w_) (impl_MakeEither.two w) h
 clear h
 go_enter Try.func47, Try.ntmps47
 go_wp2_with (go_at_call 64; refine C.mono ?_; rintro e w' ⟨rfl, hb⟩)
 go_ret2
 exact ⟨rfl, hb⟩

def impl_sums.l0 : Nat → Int → Int → Int → List Bool → List Bool → List Bool → List Bool → Option (Bool)
 | 0, _, _, _, _, _, _, _ => none
 | k + 1, x2, x9, x10, x105000, x105001, x106000, x106001 => if x10 < x9 then ((impl_set_has.f x105000 x105001 x10).bind fun t106 => (if t106 = true then ((impl_set_has.f x106000 x106001 (wrap64 (x2 - x10))).bind fun t107 => (if t107 = true then (some true) else (impl_sums.l0 k x2 x9 (wrap64 (x10 + 1)) x105000 x105001 x106000 x106001))) else (impl_sums.l0 k x2 x9 (wrap64 (x10 + 1)) x105000 x105001 x106000 x106001))) else (some false)
def impl_sums.f (k : Nat) (l0_0 : List Bool) (l0_1 : List Bool) (l1_0 : List Bool) (l1_1 : List Bool) (a2 : Int) : Option (Bool) := impl_sums.l0 k a2 (wrap64 (a2 + 1)) 0 l0_0 l0_1 l1_0 l1_1
theorem impl_sums.mono_l : ∀ k, (∀ y0 y1 y2 y3 y4 y5 y6, LeO (impl_sums.l0 k y0 y1 y2 y3 y4 y5 y6) (impl_sums.l0 (k + 1) y0 y1 y2 y3 y4 y5 y6))
 | 0 => fun _ _ _ _ _ _ _ r h => by simp [impl_sums.l0] at h
 | k + 1 => by
  have ih0 := impl_sums.mono_l k
  ·intro y0 y1 y2 y3 y4 y5 y6
   unfold impl_sums.l0
   repeat' first | (with_reducible exact ih0 _ _ _ _ _ _ _) | (with_reducible exact LeO.refl _) | (with_reducible refine LeO.ite ?_ ?_) | (with_reducible refine LeO.bind ?_ (fun _ => ?_))
theorem impl_sums.mono : ∀ a0 a1 a2 a3 a4 k, LeO (impl_sums.f k a0 a1 a2 a3 a4) (impl_sums.f (k + 1) a0 a1 a2 a3 a4) := by
 intro a0 a1 a2 a3 a4 k
 have ih0 := impl_sums.mono_l k
 unfold impl_sums.f
 repeat' (with_reducible exact ih0 _ _ _ _ _ _ _)
set_option maxHeartbeats 8000000 in
set_option maxRecDepth 100000 in
theorem impl_sums.calls (k : Nat) (A0_0 : Option Addr) (c0_0 : Nat) (l0_0 : List Bool) (A0_1 : Option Addr) (c0_1 : Nat) (l0_1 : List Bool) (A1_0 : Option Addr) (c1_0 : Nat) (l1_0 : List Bool) (A1_1 : Option Addr) (c1_1 : Nat) (l1_1 : List Bool) (a2 : Int) (r : Bool) (w : World) (hr0_0 : Kd.C Kd.bool w A0_0 l0_0.length l0_0) (hc0_0 : l0_0.length ≤ c0_0) (hr0_1 : Kd.C Kd.bool w A0_1 l0_1.length l0_1) (hc0_1 : l0_1.length ≤ c0_1) (hr1_0 : Kd.C Kd.bool w A1_0 l1_0.length l1_0) (hc1_0 : l1_0.length ≤ c1_0) (hr1_1 : Kd.C Kd.bool w A1_1 l1_1.length l1_1) (hc1_1 : l1_1.length ≤ c1_1) (h : impl_sums.f k l0_0 l0_1 l1_0 l1_1 a2 = some r) :
  Calls Try.prog 70 #[.agg #[.slice A0_0 l0_0.length c0_0, .slice A0_1 l0_1.length c0_1], .agg #[.slice A1_0 l1_0.length c1_0, .slice A1_1 l1_1.length c1_1], .int .i64 a2] w fun e w' => e = .returned (.bool r) ∧ Below w.heap.size w w' := by
 have hu56 := Try.underlying56
 have HR0_0 := aM hr0_0
 have HC0_0 := aM hc0_0
 clear hr0_0 hc0_0
 have HR0_1 := aM hr0_1
 have HC0_1 := aM hc0_1
 clear hr0_1 hc0_1
 have HR1_0 := aM hr1_0
 have HC1_0 := aM hc1_0
 clear hr1_0 hc1_0
 have HR1_1 := aM hr1_1
 have HC1_1 := aM hc1_1
 clear hr1_1 hc1_1
 have HB := aM (Below.refl w.heap.size w)
 have H : (impl_sums.l0 k a2 (wrap64 (a2 + 1)) 0 l0_0 l0_1 l1_0 l1_1) = some r := h
 clear h
 have H' := aM H
 clear H
 go_enter Try.func70, Try.ntmps70
 go_wp2_with (first | ((with_reducible refine gate_dst (N := 3) rfl ?_); refine box_event ?hg (N := 3) ?hd (cs := #[.slice A0_0 l0_0.length c0_0, .slice A0_1 l0_1.length c0_1]) (t := 56) ?hr ?_; (case hd => rfl); (case hg => rfl); (case hr => first | (go_simp; done)); intro gb104 hg w4 hbox hb; have BK104 := aM hbox; have GW104 := aM ((by rw [hg]; exact (below_size HB.out) : w.heap.size ≤ gb104)); have GE104 := aM ((by rw [hg]; exact (below_size HB.out) : w.heap.size ≤ gb104)); replace HB := aM (below_step HB.out hb); clear hb hbox hg) | ((with_reducible refine gate_dst (N := 4) rfl ?_); refine box_event ?hg (N := 4) ?hd (cs := #[.slice A1_0 l1_0.length c1_0, .slice A1_1 l1_1.length c1_1]) (t := 56) ?hr ?_; (case hd => rfl); (case hg => rfl); (case hr => first | (go_simp; done)); intro gb105 hg w5 hbox hb; have BK105 := aM hbox; have GW105 := aM ((by rw [hg]; exact (below_size HB.out) : w.heap.size ≤ gb105)); have GE105 := aM ((by rw [hg]; exact (below_size HB.out) : w.heap.size ≤ gb105)); replace HB := aM (below_step HB.out hb); have NB104_105 := aM ((by rw [hg]; exact Nat.ne_of_lt (blk_lt (g := gb104) (o := .cells #[.slice A0_0 l0_0.length c0_0, .slice A0_1 l0_1.length c0_1] 56 (0, 0)) BK104.out) : gb104 ≠ gb105)); have NB105_104 := aM ((by rw [hg]; exact Nat.ne_of_gt (blk_lt (g := gb104) (o := .cells #[.slice A0_0 l0_0.length c0_0, .slice A0_1 l0_1.length c0_1] 56 (0, 0)) BK104.out) : gb105 ≠ gb104)); replace BK104 := aM (blk_below (g := gb104) (o := .cells #[.slice A0_0 l0_0.length c0_0, .slice A0_1 l0_1.length c0_1] 56 (0, 0)) BK104.out hb); clear hb hbox hg))
 go_loopg [10] k (fun kq v10 w' => ∃ (x10_1 : Int), v10 = .int .i64 x10_1 ∧ Aside0 (impl_sums.l0 kq a2 (wrap64 (a2 + 1)) x10_1 l0_0 l0_1 l1_0 l1_1 = some r) ∧ Aside0 (kq ≤ k) ∧ Aside0 (w'.heap[gb104]? = some (.cells #[(.slice A0_0 l0_0.length c0_0), (.slice A0_1 l0_1.length c0_1)] 56 (0, 0))) ∧ Aside0 (w'.heap[gb105]? = some (.cells #[(.slice A1_0 l1_0.length c1_0), (.slice A1_1 l1_1.length c1_1)] 56 (0, 0))) ∧ Aside0 (Below w.heap.size w w'))
 case atStart => exact ⟨(0), (by rfl), H', ⟨Nat.le_refl _⟩, ⟨by exact BK104.out⟩, ⟨by exact BK105.out⟩, ⟨HB.out⟩⟩
 case round =>
  clear H'
  obtain ⟨x10_1, rfl, HA, HK1, BK104, BK105, HB⟩ := hrel
  cases gk with
  | zero => exact absurd HA.out (by simp [impl_sums.l0])
  | succ k1 =>
   have H := HA.out
   clear HA
   simp only [impl_sums.l0] at H
   by_cases c6 : x10_1 < (wrap64 (a2 + 1))
   ·rw [if_pos c6] at H
    have c6b0 : decide (x10_1 < (wrap64 (a2 + 1))) = true := decide_eq_true c6
    clear c6
    replace H := Option.bind_eq_some_iff.mp H
    obtain ⟨t106, A70, H⟩ := H
    replace H : (if t106 = true then ((impl_set_has.f l1_0 l1_1 (wrap64 (a2 - x10_1))).bind fun t107 => (if t107 = true then (some true) else (impl_sums.l0 k1 a2 (wrap64 (a2 + 1)) (wrap64 (x10_1 + 1)) l0_0 l0_1 l1_0 l1_1))) else (impl_sums.l0 k1 a2 (wrap64 (a2 + 1)) (wrap64 (x10_1 + 1)) l0_0 l0_1 l1_0 l1_1)) = some r := H
    have A7 := aM A70
    clear A70
    by_cases c8 : t106 = true
    ·subst c8
     replace H : ((impl_set_has.f l1_0 l1_1 (wrap64 (a2 - x10_1))).bind fun t107 => (if t107 = true then (some true) else (impl_sums.l0 k1 a2 (wrap64 (a2 + 1)) (wrap64 (x10_1 + 1)) l0_0 l0_1 l1_0 l1_1))) = some r := by rw [if_pos rfl] at H; exact H
     replace H := Option.bind_eq_some_iff.mp H
     obtain ⟨t107, A90, H⟩ := H
     replace H : (if t107 = true then (some true) else (impl_sums.l0 k1 a2 (wrap64 (a2 + 1)) (wrap64 (x10_1 + 1)) l0_0 l0_1 l1_0 l1_1)) = some r := H
     have A9 := aM A90
     clear A90
     by_cases c10 : t107 = true
     all_goals
      first
      |replace c10 := Bool.eq_false_iff.mpr c10
      |skip
      subst c10
      first
      |have H1 : (some true) = some r := by rw [if_pos rfl] at H; exact H
      |have H1 : (impl_sums.l0 k1 a2 (wrap64 (a2 + 1)) (wrap64 (x10_1 + 1)) l0_0 l0_1 l1_0 l1_1) = some r := by rw [if_neg (show ¬ (false = true) by decide)] at H; exact H
      clear H
      have H := H1
      clear H1
      first
      |obtain rfl := Option.some.inj H
      |have H' := aM H
       clear H
      have hnb11 := NB104_105.out
      have hnc11 := NB105_104.out
      have hcz12_0 : wr.cell? ⟨gb104, 0, none⟩ = some (.slice A0_0 l0_0.length c0_0) := (blk_cell BK104.out 0).trans rfl
      have hcz12_1 : wr.cell? ⟨gb104, 1, none⟩ = some (.slice A0_1 l0_1.length c0_1) := (blk_cell BK104.out 1).trans rfl
      have hfz12_0 := blk_frozen BK104.out 0
      have hfz12_1 := blk_frozen BK104.out 1
      go_wp2_with (first | ((with_reducible refine gate_callee (f := 33) rfl ?_); refine goesL_ (some 15) rfl rfl Try.func33 (by kernel_rfl) rfl #[.agg #[.slice A0_0 l0_0.length c0_0, .slice A0_1 l0_1.length c0_1], .int .i64 x10_1] rfl (by (try simp only [List.map_toArray, List.map_cons, List.map_nil]); rfl) ?_; (with_reducible refine (impl_set_has.calls _ _ l0_0 _ _ l0_1 x10_1 true _ ?side1 ?side2 ?side3 ?side4 A7.out).mono ?_); (case side1 => repeat (exact (Kd.C_below HR0_0.out HB.out))); (case side2 => exact HC0_0.out); (case side3 => repeat (exact (Kd.C_below HR0_1.out HB.out))); (case side4 => exact HC0_1.out); rintro e w13 ⟨rfl, hb⟩; refine ⟨_, rfl, ?_⟩; replace BK104 := aM (blk_below (g := gb104) (o := .cells #[.slice A0_0 l0_0.length c0_0, .slice A0_1 l0_1.length c0_1] 56 (0, 0)) BK104.out hb); replace BK105 := aM (blk_below (g := gb105) (o := .cells #[.slice A1_0 l1_0.length c1_0, .slice A1_1 l1_1.length c1_1] 56 (0, 0)) BK105.out hb); replace HB := aM (below_step HB.out hb); (try clear hb); have hcz14_0 : w13.cell? ⟨gb105, 0, none⟩ = some (.slice A1_0 l1_0.length c1_0) := (blk_cell BK105.out 0).trans rfl; have hcz14_1 : w13.cell? ⟨gb105, 1, none⟩ = some (.slice A1_1 l1_1.length c1_1) := (blk_cell BK105.out 1).trans rfl; have hfz14_0 := blk_frozen BK105.out 0; have hfz14_1 := blk_frozen BK105.out 1) | (go_at_call 33; (with_reducible refine (impl_set_has.calls _ _ l1_0 _ _ l1_1 (wrap64 (a2 - x10_1)) _ _ ?side1 ?side2 ?side3 ?side4 A9.out).mono ?_); (case side1 => repeat (exact (Kd.C_below HR1_0.out HB.out))); (case side2 => exact HC1_0.out); (case side3 => repeat (exact (Kd.C_below HR1_1.out HB.out))); (case side4 => exact HC1_1.out); rintro e w15 ⟨rfl, hb⟩; replace BK104 := aM (blk_below (g := gb104) (o := .cells #[.slice A0_0 l0_0.length c0_0, .slice A0_1 l0_1.length c0_1] 56 (0, 0)) BK104.out hb); replace BK105 := aM (blk_below (g := gb105) (o := .cells #[.slice A1_0 l1_0.length c1_0, .slice A1_1 l1_1.length c1_1] 56 (0, 0)) BK105.out hb); replace HB := aM (below_step HB.out hb); (try clear hb)))
      first
      |go_ret
       exact ⟨by first | rfl | (simp [*, errW_none, errW_some] <;> rfl), HB.out⟩
      |go_roundg k1
       case measure => have := HK1.out; omega
       case rel => exact ⟨(wrap64 (x10_1 + 1)), (by rfl), H', ⟨by have := HK1.out; omega⟩, ⟨by exact BK104.out⟩, ⟨by exact BK105.out⟩, ⟨HB.out⟩⟩
    ·replace c8 := Bool.eq_false_iff.mpr c8
     subst c8
     replace H : (impl_sums.l0 k1 a2 (wrap64 (a2 + 1)) (wrap64 (x10_1 + 1)) l0_0 l0_1 l1_0 l1_1) = some r := by rw [if_neg (show ¬ (false = true) by decide)] at H; exact H
     have H' := aM H
     clear H
     have hnb21 := NB104_105.out
     have hnc21 := NB105_104.out
     have hcz22_0 : wr.cell? ⟨gb104, 0, none⟩ = some (.slice A0_0 l0_0.length c0_0) := (blk_cell BK104.out 0).trans rfl
     have hcz22_1 : wr.cell? ⟨gb104, 1, none⟩ = some (.slice A0_1 l0_1.length c0_1) := (blk_cell BK104.out 1).trans rfl
     have hfz22_0 := blk_frozen BK104.out 0
     have hfz22_1 := blk_frozen BK104.out 1
     go_wp2_with (first | ((with_reducible refine gate_callee (f := 33) rfl ?_); refine goesL_ (some 15) rfl rfl Try.func33 (by kernel_rfl) rfl #[.agg #[.slice A0_0 l0_0.length c0_0, .slice A0_1 l0_1.length c0_1], .int .i64 x10_1] rfl (by (try simp only [List.map_toArray, List.map_cons, List.map_nil]); rfl) ?_; (with_reducible refine (impl_set_has.calls _ _ l0_0 _ _ l0_1 x10_1 false _ ?side1 ?side2 ?side3 ?side4 A7.out).mono ?_); (case side1 => repeat (exact (Kd.C_below HR0_0.out HB.out))); (case side2 => exact HC0_0.out); (case side3 => repeat (exact (Kd.C_below HR0_1.out HB.out))); (case side4 => exact HC0_1.out); rintro e w23 ⟨rfl, hb⟩; refine ⟨_, rfl, ?_⟩; replace BK104 := aM (blk_below (g := gb104) (o := .cells #[.slice A0_0 l0_0.length c0_0, .slice A0_1 l0_1.length c0_1] 56 (0, 0)) BK104.out hb); replace BK105 := aM (blk_below (g := gb105) (o := .cells #[.slice A1_0 l1_0.length c1_0, .slice A1_1 l1_1.length c1_1] 56 (0, 0)) BK105.out hb); replace HB := aM (below_step HB.out hb); (try clear hb)))
     go_roundg k1
     case measure => have := HK1.out; omega
     case rel => exact ⟨(wrap64 (x10_1 + 1)), (by rfl), H', ⟨by have := HK1.out; omega⟩, ⟨by exact BK104.out⟩, ⟨by exact BK105.out⟩, ⟨HB.out⟩⟩
   ·rw [if_neg c6] at H
    have c6b0 : decide (x10_1 < (wrap64 (a2 + 1))) = false := decide_eq_false c6
    clear c6
    obtain rfl := Option.some.inj H
    go_wp2
    go_ret
    exact ⟨by first | rfl | (simp [*, errW_none, errW_some] <;> rfl), HB.out⟩


theorem impl_SumOf.lit (k : Nat) (B1 B2 : Nat) (A0 : Option Addr) (c0 : Nat) (l0 : List Bool) (A1 : Option Addr) (c1 : Nat) (l1 : List Bool) (A2 : Option Addr) (c2 : Nat) (l2 : List Bool) (A3 : Option Addr) (c3 : Nat) (l3 : List Bool) (n : Int) (b : Bool) (W : World)
  (h1 : W.heap[B1]? = some (.cells #[.slice A0 l0.length c0, .slice A1 l1.length c1] 56 (0, 0))) (h2 : W.heap[B2]? = some (.cells #[.slice A2 l2.length c2, .slice A3 l3.length c3] 56 (0, 0)))
  (r0 : Kd.C Kd.bool W A0 l0.length l0) (q0 : l0.length ≤ c0) (r1 : Kd.C Kd.bool W A1 l1.length l1) (q1 : l1.length ≤ c1) (r2 : Kd.C Kd.bool W A2 l2.length l2) (q2 : l2.length ≤ c2) (r3 : Kd.C Kd.bool W A3 l3.length l3) (q3 : l3.length ≤ c3) (h : impl_sums.f k l0 l1 l2 l3 n = some b) :
  Calls Try.prog 69 #[.int .i64 n, .pointer (some ⟨B1, 0, none⟩), .pointer (some ⟨B2, 0, none⟩)] W fun e W' => e = .returned (.bool b) ∧ Below W.heap.size W W' := by
 have c10 : W.cell? ⟨B1, 0, none⟩ = some (.slice A0 l0.length c0) := (blk_cell h1 0).trans rfl
 have c11 : W.cell? ⟨B1, 1, none⟩ = some (.slice A1 l1.length c1) := (blk_cell h1 1).trans rfl
 have c20 : W.cell? ⟨B2, 0, none⟩ = some (.slice A2 l2.length c2) := (blk_cell h2 0).trans rfl
 have c21 : W.cell? ⟨B2, 1, none⟩ = some (.slice A3 l3.length c3) := (blk_cell h2 1).trans rfl
 have R0 := aM r0; have R1 := aM r1; have R2 := aM r2; have R3 := aM r3; have H := aM h
 have C := impl_sums.calls k A0 c0 l0 A1 c1 l1 A2 c2 l2 A3 c3 l3 n b W r0 q0 r1 q1 r2 q2 r3 q3 h
 clear h1 h2 r0 r1 r2 r3 q0 q1 q2 q3 h
 go_enter Try.func69, Try.ntmps69
 go_wp2_with (go_at_call 70; refine C.mono ?_; rintro e w' ⟨rfl, hb⟩)
 go_ret
 exact ⟨rfl, hb⟩
def impl_SumOf.j0 : Nat → Bool → List Bool → List Bool → List Bool → List Bool → Option (ByteArray × Bool)
 | 0, _, _, _, _, _ => none
 | k + 1, x25, x346000, x346001, x354000, x354001 => if x25 = true then (some ((⟨#[]⟩ : ByteArray), false)) else ((impl_lcm.f k (x346001.length : Int) (x354001.length : Int)).bind fun t354 => ((impl_made.f k 200 t354 (fun n_ => impl_sums.f k x346000 x346001 x354000 x354001 n_)).bind fun bt355 => (some (bt355.1, bt355.2))))
def impl_SumOf.f (k : Nat) (a0 : ByteArray) (a1 : ByteArray) : Option (ByteArray × Bool) := (impl_small.f k a0).bind fun bt338 => ((impl_small.f k a1).bind fun bt346 => (if bt338.2.2 = true then (impl_SumOf.j0 k (!bt346.2.2) bt338.1 bt338.2.1 bt346.1 bt346.2.1) else (impl_SumOf.j0 k true bt338.1 bt338.2.1 bt346.1 bt346.2.1)))
theorem impl_SumOf.mono_l : ∀ k, (∀ y0 y1 y2 y3 y4, LeO (impl_SumOf.j0 k y0 y1 y2 y3 y4) (impl_SumOf.j0 (k + 1) y0 y1 y2 y3 y4))
 | 0 => fun _ _ _ _ _ r h => by simp [impl_SumOf.j0] at h
 | k + 1 => by
  have ih0 := impl_SumOf.mono_l k
  ·intro y0 y1 y2 y3 y4
   unfold impl_SumOf.j0
   repeat' first | (with_reducible exact impl_lcm.mono _ _ _) | (with_reducible exact impl_made.mono _ _ (fun _ => impl_sums.mono _ _ _ _ _ _) _ _ _) | (with_reducible exact LeO.refl _) | (with_reducible refine LeO.ite ?_ ?_) | (with_reducible refine LeO.bind ?_ (fun _ => ?_))
theorem impl_SumOf.mono : ∀ a0 a1 k, LeO (impl_SumOf.f k a0 a1) (impl_SumOf.f (k + 1) a0 a1) := by
 intro a0 a1 k
 have ih0 := impl_SumOf.mono_l k
 unfold impl_SumOf.f
 repeat' first | (with_reducible exact ih0 _ _ _ _ _) | (with_reducible exact impl_small.mono _ _) | (with_reducible refine LeO.ite ?_ ?_) | (with_reducible refine LeO.bind ?_ (fun _ => ?_))
set_option maxHeartbeats 8000000 in
set_option maxRecDepth 100000 in
theorem impl_SumOf.calls (k : Nat) (a0 : ByteArray) (a1 : ByteArray) (r1 : ByteArray) (r2 : Bool) (w : World) (h : impl_SumOf.f k a0 a1 = some (r1, r2)) :
  Calls Try.prog 48 #[.string a0, .string a1] w fun e w' => e = .returned (.tuple #[.string r1, .bool r2]) ∧ Below w.heap.size w w' := by
 have hmf : ∀ (fn : Fn) (first cap : Array Value) (w : World), (Instr.makeFunc fn first cap).run Try.prog w = .ok (.func fn first cap) w := fun _ _ _ _ => rfl
 have hu56 := Try.underlying56
 have HB := aM (Below.refl w.heap.size w)
 have H : ((impl_small.f k a0).bind fun bt338 => ((impl_small.f k a1).bind fun bt346 => (if bt338.2.2 = true then (impl_SumOf.j0 k (!bt346.2.2) bt338.1 bt338.2.1 bt346.1 bt346.2.1) else (impl_SumOf.j0 k true bt338.1 bt338.2.1 bt346.1 bt346.2.1)))) = some (r1, r2) := h
 clear h
 replace H := Option.bind_eq_some_iff.mp H
 obtain ⟨⟨t338, t341, t344⟩, A30, H⟩ := H
 replace H : ((impl_small.f k a1).bind fun bt346 => (if t344 = true then (impl_SumOf.j0 k (!bt346.2.2) t338 t341 bt346.1 bt346.2.1) else (impl_SumOf.j0 k true t338 t341 bt346.1 bt346.2.1))) = some (r1, r2) := H
 have A3 := aM A30
 clear A30
 replace H := Option.bind_eq_some_iff.mp H
 obtain ⟨⟨t346, t349, t352⟩, A40, H⟩ := H
 replace H : (if t344 = true then (impl_SumOf.j0 k (!t352) t338 t341 t346 t349) else (impl_SumOf.j0 k true t338 t341 t346 t349)) = some (r1, r2) := H
 have A4 := aM A40
 clear A40
 have HC5 := aM H
 clear H
 go_enter Try.func48, Try.ntmps48
 go_upto_region 3 with (first | ((with_reducible refine gate_callee (f := 66) rfl ?_); refine goesL_ (some 12) rfl rfl Try.func66 (by kernel_rfl) rfl #[.string a0] rfl (by (try simp only [List.map_toArray, List.map_cons, List.map_nil]); rfl) ?_; (with_reducible refine (impl_small.calls k a0 t338 t341 t344 _ A3.out).mono ?_); rintro e w6 ⟨v339, v342, rfl, ho0, ho1, hb⟩; refine ⟨_, rfl, ?_⟩; have HO340 := aM (Kd.R_lower ho0 (below_size HB.out)); have HO343 := aM (Kd.R_lower ho1 (below_size HB.out)); replace HB := aM (below_step HB.out hb); (try clear hb); (try clear ho0); (try clear ho1)) | ((with_reducible refine gate_dst (N := 6) rfl ?_); refine box_event ?hg (N := 6) ?hd (cs := #[.slice none 0 0, .slice none 0 0]) (t := 56) ?hr ?_; (case hd => rfl); (case hg => rfl); (case hr => first | (go_simp; done)); intro gb345 hg w7 hbox hb; replace HO340 := aM (Kd.R_below HO340.out hb); replace HO343 := aM (Kd.R_below HO343.out hb); have BK345 := aM hbox; have GW345 := aM ((by rw [hg]; exact (below_size HB.out) : w.heap.size ≤ gb345)); have GE345 := aM ((by rw [hg]; exact (below_size HB.out) : w.heap.size ≤ gb345)); replace HB := aM (below_step HB.out hb); clear hb hbox hg; obtain ⟨Ao8, co8, eo8⟩ := Kd.R_slice HO340.out; subst eo8; have hcz9_0 : w7.cell? ⟨gb345, 0, none⟩ = some (.slice none 0 0) := (blk_cell BK345.out 0).trans rfl; have hcz9_1 : w7.cell? ⟨gb345, 1, none⟩ = some (.slice none 0 0) := (blk_cell BK345.out 1).trans rfl; have hfz9_0 := blk_frozen BK345.out 0; have hfz9_1 := blk_frozen BK345.out 1; obtain ⟨Ao10, co10, eo10⟩ := Kd.R_slice HO343.out; subst eo10) | ((with_reducible refine gate_callee (f := 66) rfl ?_); refine goesL_ (some 17) rfl rfl Try.func66 (by kernel_rfl) rfl #[.string a1] rfl (by (try simp only [List.map_toArray, List.map_cons, List.map_nil]); rfl) ?_; (with_reducible refine (impl_small.calls k a1 t346 t349 t352 _ A4.out).mono ?_); rintro e w11 ⟨v347, v350, rfl, ho0, ho1, hb⟩; refine ⟨_, rfl, ?_⟩; have HO348 := aM (Kd.R_lower (Kd.R_new' (Kd.R_new' ho0 (Kd.R_lt (by exact (Kd.R_mono (Kd.R_far (p := ⟨gb345, 1, none⟩) (Kd.R_far (p := ⟨gb345, 0, none⟩) (Kd.R_types HO340.out BK345.out (by decide)) (fun _ hk => hk.2) (.slice Ao8 t338.length co8)) (fun _ hk => hk.2) (.slice Ao10 t341.length co10)) (fun _ h_ => h_.1))))) (Kd.R_lt (by exact (Kd.R_mono (Kd.R_far (p := ⟨gb345, 1, none⟩) (Kd.R_far (p := ⟨gb345, 0, none⟩) (Kd.R_types HO343.out BK345.out (by decide)) (fun _ hk => hk.2) (.slice Ao8 t338.length co8)) (fun _ hk => hk.2) (.slice Ao10 t341.length co10)) (fun _ h_ => h_.1))))) (below_size (by repeat (first | (with_reducible first | exact HB.out | refine bS ?_ GE345.out))))); have HO351 := aM (Kd.R_lower (Kd.R_new' (Kd.R_new' ho1 (Kd.R_lt (by exact (Kd.R_mono (Kd.R_far (p := ⟨gb345, 1, none⟩) (Kd.R_far (p := ⟨gb345, 0, none⟩) (Kd.R_types HO340.out BK345.out (by decide)) (fun _ hk => hk.2) (.slice Ao8 t338.length co8)) (fun _ hk => hk.2) (.slice Ao10 t341.length co10)) (fun _ h_ => h_.1))))) (Kd.R_lt (by exact (Kd.R_mono (Kd.R_far (p := ⟨gb345, 1, none⟩) (Kd.R_far (p := ⟨gb345, 0, none⟩) (Kd.R_types HO343.out BK345.out (by decide)) (fun _ hk => hk.2) (.slice Ao8 t338.length co8)) (fun _ hk => hk.2) (.slice Ao10 t341.length co10)) (fun _ h_ => h_.1))))) (below_size (by repeat (first | (with_reducible first | exact HB.out | refine bS ?_ GE345.out))))); replace HO340 := aM (Kd.R_mono (Kd.R_told (Kd.R_told (Kd.R_old (by exact (Kd.R_mono (Kd.R_far (p := ⟨gb345, 1, none⟩) (Kd.R_far (p := ⟨gb345, 0, none⟩) (Kd.R_types HO340.out BK345.out (by decide)) (fun _ hk => hk.2) (.slice Ao8 t338.length co8)) (fun _ hk => hk.2) (.slice Ao10 t341.length co10)) (fun _ h_ => h_.1))) hb) (Kd.R_base ho0)) (Kd.R_base ho1)) (fun _ h_ => h_.1)); replace HO343 := aM (Kd.R_mono (Kd.R_told (Kd.R_told (Kd.R_old (by exact (Kd.R_mono (Kd.R_far (p := ⟨gb345, 1, none⟩) (Kd.R_far (p := ⟨gb345, 0, none⟩) (Kd.R_types HO343.out BK345.out (by decide)) (fun _ hk => hk.2) (.slice Ao8 t338.length co8)) (fun _ hk => hk.2) (.slice Ao10 t341.length co10)) (fun _ h_ => h_.1))) hb) (Kd.R_base ho0)) (Kd.R_base ho1)) (fun _ h_ => h_.1)); replace BK345 := aM (blk_below (g := gb345) (o := .cells #[.slice Ao8 t338.length co8, .slice Ao10 t341.length co10] 56 (0, 0)) (by refine blk_put (cs := #[.slice Ao8 t338.length co8, .slice none 0 0]) ?_ 1 _ rfl; refine blk_put (cs := #[.slice none 0 0, .slice none 0 0]) ?_ 0 _ rfl; exact BK345.out) hb); replace HB := aM (below_step (by repeat (first | (with_reducible first | exact HB.out | refine bS ?_ GE345.out))) hb); (try clear hb); (try clear ho0); (try clear ho1)) | ((with_reducible refine gate_dst (N := 8) rfl ?_); refine box_event ?hg (N := 8) ?hd (cs := #[.slice none 0 0, .slice none 0 0]) (t := 56) ?hr ?_; (case hd => rfl); (case hg => rfl); (case hr => first | (go_simp; done)); intro gb353 hg w12 hbox hb; replace HO340 := aM (Kd.R_below HO340.out hb); replace HO343 := aM (Kd.R_below HO343.out hb); replace HO348 := aM (Kd.R_below HO348.out hb); replace HO351 := aM (Kd.R_below HO351.out hb); have BK353 := aM hbox; have GW353 := aM ((by rw [hg]; exact (below_size HB.out) : w.heap.size ≤ gb353)); have GE353 := aM ((by rw [hg]; exact (below_size HB.out) : w.heap.size ≤ gb353)); replace HB := aM (below_step HB.out hb); have NB345_353 := aM ((by rw [hg]; exact Nat.ne_of_lt (blk_lt (g := gb345) (o := .cells #[.slice Ao8 t338.length co8, .slice Ao10 t341.length co10] 56 (0, 0)) BK345.out) : gb345 ≠ gb353)); have NB353_345 := aM ((by rw [hg]; exact Nat.ne_of_gt (blk_lt (g := gb345) (o := .cells #[.slice Ao8 t338.length co8, .slice Ao10 t341.length co10] 56 (0, 0)) BK345.out) : gb353 ≠ gb345)); replace BK345 := aM (blk_below (g := gb345) (o := .cells #[.slice Ao8 t338.length co8, .slice Ao10 t341.length co10] 56 (0, 0)) BK345.out hb); clear hb hbox hg; obtain ⟨Ao13, co13, eo13⟩ := Kd.R_slice HO348.out; subst eo13; have hnb14 := NB353_345.out; have hnc14 := NB345_353.out; have hcz15_0 : w12.cell? ⟨gb353, 0, none⟩ = some (.slice none 0 0) := (blk_cell BK353.out 0).trans rfl; have hcz15_1 : w12.cell? ⟨gb353, 1, none⟩ = some (.slice none 0 0) := (blk_cell BK353.out 1).trans rfl; have hfz15_0 := blk_frozen BK353.out 0; have hfz15_1 := blk_frozen BK353.out 1; obtain ⟨Ao16, co16, eo16⟩ := Kd.R_slice HO351.out; subst eo16))
 go_cut [25] (fun v25 wc => ∃ (kq : Nat) (x25_4 : Bool), v25 = .bool x25_4 ∧ Aside0 (impl_SumOf.j0 kq x25_4 t338 t341 t346 t349 = some (r1, r2)) ∧ Aside0 (kq ≤ k) ∧ Aside0 (Kd.R Kd.bool 4 wc w.heap.size (fun k_ => some k_ ≠ ((.slice Ao10 t341.length co10) : Value).ownBlock ∧ some k_ ≠ ((.slice Ao13 t346.length co13) : Value).ownBlock ∧ some k_ ≠ ((.slice Ao16 t349.length co16) : Value).ownBlock) (.slice Ao8 t338.length co8) t338) ∧ Aside0 (Kd.R Kd.bool 4 wc w.heap.size (fun k_ => some k_ ≠ ((.slice Ao8 t338.length co8) : Value).ownBlock ∧ some k_ ≠ ((.slice Ao13 t346.length co13) : Value).ownBlock ∧ some k_ ≠ ((.slice Ao16 t349.length co16) : Value).ownBlock) (.slice Ao10 t341.length co10) t341) ∧ Aside0 (Kd.R Kd.bool 4 wc w.heap.size (fun k_ => some k_ ≠ ((.slice Ao8 t338.length co8) : Value).ownBlock ∧ some k_ ≠ ((.slice Ao10 t341.length co10) : Value).ownBlock ∧ some k_ ≠ ((.slice Ao16 t349.length co16) : Value).ownBlock) (.slice Ao13 t346.length co13) t346) ∧ Aside0 (Kd.R Kd.bool 4 wc w.heap.size (fun k_ => some k_ ≠ ((.slice Ao8 t338.length co8) : Value).ownBlock ∧ some k_ ≠ ((.slice Ao10 t341.length co10) : Value).ownBlock ∧ some k_ ≠ ((.slice Ao13 t346.length co13) : Value).ownBlock) (.slice Ao16 t349.length co16) t349) ∧ Aside0 (wc.heap[gb345]? = some (.cells #[(.slice Ao8 t338.length co8), (.slice Ao10 t341.length co10)] 56 (0, 0))) ∧ Aside0 (wc.heap[gb353]? = some (.cells #[(.slice Ao13 t346.length co13), (.slice Ao16 t349.length co16)] 56 (0, 0))) ∧ Aside0 (Below w.heap.size w wc))
 case first =>
  have H := HC5.out
  clear HC5
  by_cases c17 : t344 = true
  ·subst c17
   replace H : (impl_SumOf.j0 k (!t352) t338 t341 t346 t349) = some (r1, r2) := by rw [if_pos rfl] at H; exact H
   have H' := aM H
   clear H
   go_wp2
   go_meet
   case rel => exact ⟨_, (!t352), (by rfl), H', ⟨by omega⟩, ⟨by exact Kd.R_mono (Kd.R_far (p := ⟨gb353, 1, none⟩) (Kd.R_far (p := ⟨gb353, 0, none⟩) (Kd.R_types HO340.out BK353.out (by decide)) (fun _ hk => hk.2) (.slice Ao13 t346.length co13)) (fun _ hk => hk.2) (.slice Ao16 t349.length co16)) (fun _ hk => ⟨hk.1.1.1, ⟨hk.1.1.2, hk.1.2⟩⟩)⟩, ⟨by exact Kd.R_mono (Kd.R_far (p := ⟨gb353, 1, none⟩) (Kd.R_far (p := ⟨gb353, 0, none⟩) (Kd.R_types HO343.out BK353.out (by decide)) (fun _ hk => hk.2) (.slice Ao13 t346.length co13)) (fun _ hk => hk.2) (.slice Ao16 t349.length co16)) (fun _ hk => ⟨hk.1.1.1, ⟨hk.1.1.2, hk.1.2⟩⟩)⟩, ⟨by exact Kd.R_mono (Kd.R_far (p := ⟨gb353, 1, none⟩) (Kd.R_far (p := ⟨gb353, 0, none⟩) (Kd.R_types HO348.out BK353.out (by decide)) (fun _ hk => hk.2) (.slice Ao13 t346.length co13)) (fun _ hk => hk.2) (.slice Ao16 t349.length co16)) (fun _ hk => ⟨hk.1.1.2, ⟨hk.1.2, hk.1.1.1⟩⟩)⟩, ⟨by exact Kd.R_mono (Kd.R_far (p := ⟨gb353, 1, none⟩) (Kd.R_far (p := ⟨gb353, 0, none⟩) (Kd.R_types HO351.out BK353.out (by decide)) (fun _ hk => hk.2) (.slice Ao13 t346.length co13)) (fun _ hk => hk.2) (.slice Ao16 t349.length co16)) (fun _ hk => ⟨hk.1.1.2, ⟨hk.1.2, hk.1.1.1⟩⟩)⟩, ⟨by refine blk_far ?_ NB345_353.out _; refine blk_far ?_ NB345_353.out _; exact BK345.out⟩, ⟨by refine blk_put (cs := #[.slice Ao13 t346.length co13, .slice none 0 0]) ?_ 1 _ rfl; refine blk_put (cs := #[.slice none 0 0, .slice none 0 0]) ?_ 0 _ rfl; exact BK353.out⟩, ⟨by repeat (first | (with_reducible first | exact HB.out | refine bS ?_ GE353.out))⟩⟩
  ·replace c17 := Bool.eq_false_iff.mpr c17
   subst c17
   replace H : (impl_SumOf.j0 k true t338 t341 t346 t349) = some (r1, r2) := by rw [if_neg (show ¬ (false = true) by decide)] at H; exact H
   have H' := aM H
   clear H
   go_wp2
   go_meet
   case rel => exact ⟨_, (true), (by rfl), H', ⟨by omega⟩, ⟨by exact Kd.R_mono (Kd.R_far (p := ⟨gb353, 1, none⟩) (Kd.R_far (p := ⟨gb353, 0, none⟩) (Kd.R_types HO340.out BK353.out (by decide)) (fun _ hk => hk.2) (.slice Ao13 t346.length co13)) (fun _ hk => hk.2) (.slice Ao16 t349.length co16)) (fun _ hk => ⟨hk.1.1.1, ⟨hk.1.1.2, hk.1.2⟩⟩)⟩, ⟨by exact Kd.R_mono (Kd.R_far (p := ⟨gb353, 1, none⟩) (Kd.R_far (p := ⟨gb353, 0, none⟩) (Kd.R_types HO343.out BK353.out (by decide)) (fun _ hk => hk.2) (.slice Ao13 t346.length co13)) (fun _ hk => hk.2) (.slice Ao16 t349.length co16)) (fun _ hk => ⟨hk.1.1.1, ⟨hk.1.1.2, hk.1.2⟩⟩)⟩, ⟨by exact Kd.R_mono (Kd.R_far (p := ⟨gb353, 1, none⟩) (Kd.R_far (p := ⟨gb353, 0, none⟩) (Kd.R_types HO348.out BK353.out (by decide)) (fun _ hk => hk.2) (.slice Ao13 t346.length co13)) (fun _ hk => hk.2) (.slice Ao16 t349.length co16)) (fun _ hk => ⟨hk.1.1.2, ⟨hk.1.2, hk.1.1.1⟩⟩)⟩, ⟨by exact Kd.R_mono (Kd.R_far (p := ⟨gb353, 1, none⟩) (Kd.R_far (p := ⟨gb353, 0, none⟩) (Kd.R_types HO351.out BK353.out (by decide)) (fun _ hk => hk.2) (.slice Ao13 t346.length co13)) (fun _ hk => hk.2) (.slice Ao16 t349.length co16)) (fun _ hk => ⟨hk.1.1.2, ⟨hk.1.2, hk.1.1.1⟩⟩)⟩, ⟨by refine blk_far ?_ NB345_353.out _; refine blk_far ?_ NB345_353.out _; exact BK345.out⟩, ⟨by refine blk_put (cs := #[.slice Ao13 t346.length co13, .slice none 0 0]) ?_ 1 _ rfl; refine blk_put (cs := #[.slice none 0 0, .slice none 0 0]) ?_ 0 _ rfl; exact BK353.out⟩, ⟨by repeat (first | (with_reducible first | exact HB.out | refine bS ?_ GE353.out))⟩⟩
 case rest =>
  clear HC5
  try clear hcz15_0
  try clear hcz15_1
  try clear hcz9_0
  try clear hcz9_1
  try clear hfz15_0
  try clear hfz15_1
  try clear hfz9_0
  try clear hfz9_1
  obtain ⟨kq, x25_4, rfl, HA, HJ4, HO_346000, HO_346001, HO_354000, HO_354001, BK345, BK353, HB⟩ := hcut
  cases kq with
  | zero => exact absurd HA.out (by simp [impl_SumOf.j0])
  | succ kj4 =>
   have H := HA.out
   clear HA
   simp only [impl_SumOf.j0] at H
   by_cases c18 : x25_4 = true
   ·subst c18
    replace H : (some ((⟨#[]⟩ : ByteArray), false)) = some (r1, r2) := by rw [if_pos rfl] at H; exact H
    simp only [Option.some.injEq, Prod.mk.injEq] at H
    obtain ⟨rfl, rfl⟩ := H
    go_wp2
    go_ret2
    exact ⟨by first | rfl | (simp [*, errW_none, errW_some] <;> rfl), HB.out⟩
   ·replace c18 := Bool.eq_false_iff.mpr c18
    subst c18
    replace H : ((impl_lcm.f kj4 (t341.length : Int) (t349.length : Int)).bind fun t354 => ((impl_made.f kj4 200 t354 (fun n_ => impl_sums.f kj4 t338 t341 t346 t349 n_)).bind fun bt355 => (some (bt355.1, bt355.2)))) = some (r1, r2) := by rw [if_neg (show ¬ (false = true) by decide)] at H; exact H
    replace H := Option.bind_eq_some_iff.mp H
    obtain ⟨t354, A190, H⟩ := H
    replace H : ((impl_made.f kj4 200 t354 (fun n_ => impl_sums.f kj4 t338 t341 t346 t349 n_)).bind fun bt355 => (some (bt355.1, bt355.2))) = some (r1, r2) := H
    have A19 := aM A190
    clear A190
    replace H := Option.bind_eq_some_iff.mp H
    obtain ⟨⟨t355, t356⟩, A200, H⟩ := H
    replace H : (some (t355, t356)) = some (r1, r2) := H
    have A20 := aM A200
    clear A200
    simp only [Option.some.injEq, Prod.mk.injEq] at H
    obtain ⟨rfl, rfl⟩ := H
    have hnb21 := NB345_353.out
    have hnc21 := NB353_345.out
    have hcz22_0 : wc.cell? ⟨gb345, 0, none⟩ = some (.slice Ao8 t338.length co8) := (blk_cell BK345.out 0).trans rfl
    have hcz22_1 : wc.cell? ⟨gb345, 1, none⟩ = some (.slice Ao10 t341.length co10) := (blk_cell BK345.out 1).trans rfl
    have hfz22_0 := blk_frozen BK345.out 0
    have hfz22_1 := blk_frozen BK345.out 1
    have hcz23_0 : wc.cell? ⟨gb353, 0, none⟩ = some (.slice Ao13 t346.length co13) := (blk_cell BK353.out 0).trans rfl
    have hcz23_1 : wc.cell? ⟨gb353, 1, none⟩ = some (.slice Ao16 t349.length co16) := (blk_cell BK353.out 1).trans rfl
    have hfz23_0 := blk_frozen BK353.out 0
    have hfz23_1 := blk_frozen BK353.out 1
    go_wp2_with (first | ((with_reducible refine gate_callee (f := 68) rfl ?_); refine goesL_ (some 32) rfl rfl Try.func68 (by kernel_rfl) rfl #[.int .i64 (t341.length : Int), .int .i64 (t349.length : Int)] rfl (by (try simp only [List.map_toArray, List.map_cons, List.map_nil]); rfl) ?_; (with_reducible refine (impl_lcm.calls kj4 (t341.length : Int) (t349.length : Int) t354 _ A19.out).mono ?_); rintro e w' ⟨rfl, ⟨nd, rfl⟩⟩; refine ⟨_, rfl, ?_⟩) | ((with_reducible refine gate_callee (f := 67) rfl ?_); refine goesL_ (some 34) rfl rfl Try.func67 (by kernel_rfl) rfl #[.int .i64 200, .int .i64 t354, .func (.func 69) #[] #[.pointer (some ⟨gb345, 0, none⟩), .pointer (some ⟨gb353, 0, none⟩)]] rfl (by (try simp only [List.map_toArray, List.map_cons, List.map_nil]); rfl) ?_; refine (impl_made.calls kj4 200 t354 (fun n_ => impl_sums.f kj4 t338 t341 t346 t349 n_) 69 #[.pointer (some ⟨gb345, 0, none⟩), .pointer (some ⟨gb353, 0, none⟩)] t355 t356 _ (fun args_ w_ => enters_ Try.func69 (by kernel_rfl) rfl args_ w_) ?hpx A20.out).mono ?_; (case hpx => intro n_ b_ W_ hW_ hb_; refine impl_SumOf.lit kj4 gb345 gb353 Ao8 co8 t338 Ao10 co10 t341 Ao13 co13 t346 Ao16 co16 t349 n_ b_ W_ (blk_below (by (with_reducible repeat (refine kN ?_ _)); exact BK345.out) hW_) (blk_below (by (with_reducible repeat (refine kN ?_ _)); exact BK353.out) hW_) ?q0 ?q1 ?q2 ?q3 ?q4 ?q5 ?q6 ?q7 hb_; all_goals (first | exact Kd.C_below (by repeat (first | exact (Kd.R_reads' HO_346000.out).2.2 | exact (Kd.R_reads' HO_346001.out).2.2 | exact (Kd.R_reads' HO_354000.out).2.2 | exact (Kd.R_reads' HO_354001.out).2.2)) hW_ | exact (Kd.R_reads' HO_346000.out).2.1 | exact (Kd.R_reads' HO_346001.out).2.1 | exact (Kd.R_reads' HO_354000.out).2.1 | exact (Kd.R_reads' HO_354001.out).2.1)); rintro e w24 ⟨rfl, hb⟩; refine ⟨_, rfl, ?_⟩; replace HO_346000 := aM (Kd.R_below (by (with_reducible repeat (apply rN)); exact HO_346000.out) hb); replace HO_346001 := aM (Kd.R_below (by (with_reducible repeat (apply rN)); exact HO_346001.out) hb); replace HO_354000 := aM (Kd.R_below (by (with_reducible repeat (apply rN)); exact HO_354000.out) hb); replace HO_354001 := aM (Kd.R_below (by (with_reducible repeat (apply rN)); exact HO_354001.out) hb); replace BK345 := aM (blk_below (g := gb345) (o := .cells #[.slice Ao8 t338.length co8, .slice Ao10 t341.length co10] 56 (0, 0)) (by (with_reducible repeat (refine kN ?_ _)); exact BK345.out) hb); replace BK353 := aM (blk_below (g := gb353) (o := .cells #[.slice Ao13 t346.length co13, .slice Ao16 t349.length co16] 56 (0, 0)) (by (with_reducible repeat (refine kN ?_ _)); exact BK353.out) hb); replace HB := aM (below_step (by repeat (first | (with_reducible first | exact HB.out | apply bN))) hb); (try clear hb)))
    go_ret2
    exact ⟨by first | rfl | (simp [*, errW_none, errW_some] <;> rfl), HB.out⟩


def impl_MakeBoth.f (k : Nat) (a0 a1 : ByteArray) : Option (ByteArray × Bool) := impl_pair.f k a0 a1 (fun a b => a && b)
theorem impl_MakeBoth.mono : ∀ a0 a1 k, LeO (impl_MakeBoth.f k a0 a1) (impl_MakeBoth.f (k + 1) a0 a1) := fun a0 a1 k => impl_pair.mono a0 a1 _ k
set_option maxHeartbeats 1000000 in
set_option maxRecDepth 100000 in
theorem impl_MakeBoth.two (w : World) : impl_pair.Two w 71 (fun a b => a && b) := by
 intro a b W hw
 clear hw
 cases a with
 | false =>
  go_enter Try.func71, Try.ntmps71
  go_wp2
  go_ret
  exact ⟨rfl, Below.refl _ _⟩
 | true =>
  go_enter Try.func71, Try.ntmps71
  go_wp2
  go_ret
  exact ⟨rfl, Below.refl _ _⟩
set_option maxHeartbeats 1000000 in
set_option maxRecDepth 100000 in
theorem impl_MakeBoth.calls (k : Nat) (a0 : ByteArray) (a1 : ByteArray) (r1 : ByteArray) (r2 : Bool) (w : World) (h : impl_MakeBoth.f k a0 a1 = some (r1, r2)) :
  Calls Try.prog 49 #[.string a0, .string a1] w fun e w' => e = .returned (.tuple #[.string r1, .bool r2]) ∧ Below w.heap.size w w' := by
 have C := impl_pair.calls k a0 a1 71 _ r1 r2 w (fun args_ w_ => enters_ Try.func71 (by kernel_rfl) rfl args_ w_) (impl_MakeBoth.two w) h
 clear h
 go_enter Try.func49, Try.ntmps49
 go_wp2_with (go_at_call 64; refine C.mono ?_; rintro e w' ⟨rfl, hb⟩)
 go_ret2
 exact ⟨rfl, hb⟩

mutual
def impl_SumTimes.j0 : Nat → ByteArray → Int → Bool → Option (ByteArray × Bool)
 | 0, _, _, _ => none
 | k + 1, x0, x1, x21 => if x21 = true then (some ((⟨#[]⟩ : ByteArray), false)) else (impl_SumTimes.l0 k x0 (⟨#[49, 40, 48, 41]⟩ : ByteArray) x1 0)
def impl_SumTimes.l0 : Nat → ByteArray → ByteArray → Int → Int → Option (ByteArray × Bool)
 | 0, _, _, _, _ => none
 | k + 1, x0, x8, x22, x23 => if x23 < x22 then ((impl_SumOf.f k x8 x0).bind fun bt366 => (if bt366.2 = true then (impl_SumTimes.l0 k x0 bt366.1 x22 (wrap64 (x23 + 1))) else (some ((⟨#[]⟩ : ByteArray), false)))) else (some (x8, true))
end
def impl_SumTimes.f (k : Nat) (a0 : ByteArray) (a1 : Int) : Option (ByteArray × Bool) := (impl_small.f k a0).bind fun bt357 => (if bt357.2.2 = true then ((impl_in.f a1 0 6).bind fun t365 => (impl_SumTimes.j0 k a0 a1 (!t365))) else (impl_SumTimes.j0 k a0 a1 true))
theorem impl_SumTimes.mono_l : ∀ k, (∀ y0 y1 y2, LeO (impl_SumTimes.j0 k y0 y1 y2) (impl_SumTimes.j0 (k + 1) y0 y1 y2)) ∧ (∀ y0 y1 y2 y3, LeO (impl_SumTimes.l0 k y0 y1 y2 y3) (impl_SumTimes.l0 (k + 1) y0 y1 y2 y3))
 | 0 => ⟨fun _ _ _ r h => by simp [impl_SumTimes.j0] at h, fun _ _ _ _ r h => by simp [impl_SumTimes.l0] at h⟩
 | k + 1 => by
  obtain ⟨ih0, ih1⟩ := impl_SumTimes.mono_l k
  refine ⟨?_, ?_⟩
  ·intro y0 y1 y2
   unfold impl_SumTimes.j0
   repeat' first | (with_reducible exact ih1 _ _ _ _) | (with_reducible exact LeO.refl _) | (with_reducible refine LeO.ite ?_ ?_)
  ·intro y0 y1 y2 y3
   unfold impl_SumTimes.l0
   repeat' first | (with_reducible exact ih1 _ _ _ _) | (with_reducible exact impl_SumOf.mono _ _ _) | (with_reducible exact LeO.refl _) | (with_reducible refine LeO.ite ?_ ?_) | (with_reducible refine LeO.bind ?_ (fun _ => ?_))
theorem impl_SumTimes.mono : ∀ a0 a1 k, LeO (impl_SumTimes.f k a0 a1) (impl_SumTimes.f (k + 1) a0 a1) := by
 intro a0 a1 k
 obtain ⟨ih0, ih1⟩ := impl_SumTimes.mono_l k
 unfold impl_SumTimes.f
 repeat' first | (with_reducible exact ih0 _ _ _) | (with_reducible exact impl_small.mono _ _) | (with_reducible exact LeO.refl _) | (with_reducible refine LeO.ite ?_ ?_) | (with_reducible refine LeO.bind ?_ (fun _ => ?_))
set_option maxHeartbeats 8000000 in
set_option maxRecDepth 100000 in
theorem impl_SumTimes.calls (k : Nat) (a0 : ByteArray) (a1 : Int) (r1 : ByteArray) (r2 : Bool) (w : World) (h : impl_SumTimes.f k a0 a1 = some (r1, r2)) :
  Calls Try.prog 50 #[.string a0, .int .i64 a1] w fun e w' => e = .returned (.tuple #[.string r1, .bool r2]) ∧ Below w.heap.size w w' := by
 have hu56 := Try.underlying56
 have HB := aM (Below.refl w.heap.size w)
 have H : ((impl_small.f k a0).bind fun bt357 => (if bt357.2.2 = true then ((impl_in.f a1 0 6).bind fun t365 => (impl_SumTimes.j0 k a0 a1 (!t365))) else (impl_SumTimes.j0 k a0 a1 true))) = some (r1, r2) := h
 clear h
 replace H := Option.bind_eq_some_iff.mp H
 obtain ⟨⟨t357, t360, t363⟩, A30, H⟩ := H
 replace H : (if t363 = true then ((impl_in.f a1 0 6).bind fun t365 => (impl_SumTimes.j0 k a0 a1 (!t365))) else (impl_SumTimes.j0 k a0 a1 true)) = some (r1, r2) := H
 have A3 := aM A30
 clear A30
 have HC4 := aM H
 clear H
 go_enter Try.func50, Try.ntmps50
 go_upto_region 2 with (first | ((with_reducible refine gate_callee (f := 66) rfl ?_); refine goesL_ (some 12) rfl rfl Try.func66 (by kernel_rfl) rfl #[.string a0] rfl (by (try simp only [List.map_toArray, List.map_cons, List.map_nil]); rfl) ?_; (with_reducible refine (impl_small.calls k a0 t357 t360 t363 _ A3.out).mono ?_); rintro e w5 ⟨v358, v361, rfl, ho0, ho1, hb⟩; refine ⟨_, rfl, ?_⟩; have HO359 := aM (Kd.R_lower ho0 (below_size HB.out)); have HO362 := aM (Kd.R_lower ho1 (below_size HB.out)); replace HB := aM (below_step HB.out hb); (try clear hb); (try clear ho0); (try clear ho1)) | ((with_reducible refine gate_dst (N := 6) rfl ?_); refine box_event ?hg (N := 6) ?hd (cs := #[.slice none 0 0, .slice none 0 0]) (t := 56) ?hr ?_; (case hd => rfl); (case hg => rfl); (case hr => first | (go_simp; done)); intro gb364 hg w6 hbox hb; replace HO359 := aM (Kd.R_below HO359.out hb); replace HO362 := aM (Kd.R_below HO362.out hb); have BK364 := aM hbox; have GW364 := aM ((by rw [hg]; exact (below_size HB.out) : w.heap.size ≤ gb364)); have GE364 := aM ((by rw [hg]; exact (below_size HB.out) : w.heap.size ≤ gb364)); replace HB := aM (below_step HB.out hb); clear hb hbox hg; obtain ⟨Ao7, co7, eo7⟩ := Kd.R_slice HO359.out; subst eo7; have hcz8_0 : w6.cell? ⟨gb364, 0, none⟩ = some (.slice none 0 0) := (blk_cell BK364.out 0).trans rfl; have hcz8_1 : w6.cell? ⟨gb364, 1, none⟩ = some (.slice none 0 0) := (blk_cell BK364.out 1).trans rfl; have hfz8_0 := blk_frozen BK364.out 0; have hfz8_1 := blk_frozen BK364.out 1; obtain ⟨Ao9, co9, eo9⟩ := Kd.R_slice HO362.out; subst eo9))
 go_cut [21] (fun v21 wc => ∃ (kq : Nat) (x21_3 : Bool), v21 = .bool x21_3 ∧ Aside0 (impl_SumTimes.j0 kq a0 a1 x21_3 = some (r1, r2)) ∧ Aside0 (kq ≤ k) ∧ Aside0 (Kd.R Kd.bool 4 wc w.heap.size (fun k_ => some k_ ≠ ((.slice Ao9 t360.length co9) : Value).ownBlock) (.slice Ao7 t357.length co7) t357) ∧ Aside0 (Kd.R Kd.bool 4 wc w.heap.size (fun k_ => some k_ ≠ ((.slice Ao7 t357.length co7) : Value).ownBlock) (.slice Ao9 t360.length co9) t360) ∧ Aside0 (wc.heap[gb364]? = some (.cells #[(.slice Ao7 t357.length co7), (.slice Ao9 t360.length co9)] 56 (0, 0))) ∧ Aside0 (Below w.heap.size w wc))
 case first =>
  have H := HC4.out
  clear HC4
  by_cases c10 : t363 = true
  ·subst c10
   replace H : ((impl_in.f a1 0 6).bind fun t365 => (impl_SumTimes.j0 k a0 a1 (!t365))) = some (r1, r2) := by rw [if_pos rfl] at H; exact H
   replace H := Option.bind_eq_some_iff.mp H
   obtain ⟨t365, A110, H⟩ := H
   replace H : (impl_SumTimes.j0 k a0 a1 (!t365)) = some (r1, r2) := H
   have A11 := aM A110
   clear A110
   have H' := aM H
   clear H
   go_wp2_with (first | (go_at_call 26; (with_reducible refine (impl_in.calls a1 0 6 t365 _ A11.out).mono ?_); rintro e w' ⟨rfl, ⟨nd, rfl⟩⟩))
   go_meet
   case rel => exact ⟨_, (!t365), (by rfl), H', ⟨by omega⟩, ⟨by (with_reducible repeat (apply rN)); exact Kd.R_mono (Kd.R_far (p := ⟨gb364, 1, none⟩) (Kd.R_far (p := ⟨gb364, 0, none⟩) (Kd.R_types HO359.out BK364.out (by decide)) (fun _ hk => hk.2) (.slice Ao7 t357.length co7)) (fun _ hk => hk.2) (.slice Ao9 t360.length co9)) (fun _ hk => hk.1)⟩, ⟨by (with_reducible repeat (apply rN)); exact Kd.R_mono (Kd.R_far (p := ⟨gb364, 1, none⟩) (Kd.R_far (p := ⟨gb364, 0, none⟩) (Kd.R_types HO362.out BK364.out (by decide)) (fun _ hk => hk.2) (.slice Ao7 t357.length co7)) (fun _ hk => hk.2) (.slice Ao9 t360.length co9)) (fun _ hk => hk.1)⟩, ⟨by (with_reducible repeat (refine kN ?_ _)); refine blk_put (cs := #[.slice Ao7 t357.length co7, .slice none 0 0]) ?_ 1 _ rfl; refine blk_put (cs := #[.slice none 0 0, .slice none 0 0]) ?_ 0 _ rfl; exact BK364.out⟩, ⟨by repeat (first | (with_reducible first | exact HB.out | apply bN | refine bS ?_ GE364.out))⟩⟩
  ·replace c10 := Bool.eq_false_iff.mpr c10
   subst c10
   replace H : (impl_SumTimes.j0 k a0 a1 true) = some (r1, r2) := by rw [if_neg (show ¬ (false = true) by decide)] at H; exact H
   have H' := aM H
   clear H
   go_wp2
   go_meet
   case rel => exact ⟨_, (true), (by rfl), H', ⟨by omega⟩, ⟨by exact Kd.R_mono (Kd.R_far (p := ⟨gb364, 1, none⟩) (Kd.R_far (p := ⟨gb364, 0, none⟩) (Kd.R_types HO359.out BK364.out (by decide)) (fun _ hk => hk.2) (.slice Ao7 t357.length co7)) (fun _ hk => hk.2) (.slice Ao9 t360.length co9)) (fun _ hk => hk.1)⟩, ⟨by exact Kd.R_mono (Kd.R_far (p := ⟨gb364, 1, none⟩) (Kd.R_far (p := ⟨gb364, 0, none⟩) (Kd.R_types HO362.out BK364.out (by decide)) (fun _ hk => hk.2) (.slice Ao7 t357.length co7)) (fun _ hk => hk.2) (.slice Ao9 t360.length co9)) (fun _ hk => hk.1)⟩, ⟨by refine blk_put (cs := #[.slice Ao7 t357.length co7, .slice none 0 0]) ?_ 1 _ rfl; refine blk_put (cs := #[.slice none 0 0, .slice none 0 0]) ?_ 0 _ rfl; exact BK364.out⟩, ⟨by repeat (first | (with_reducible first | exact HB.out | refine bS ?_ GE364.out))⟩⟩
 case rest =>
  clear HC4
  try clear hcz8_0
  try clear hcz8_1
  try clear hfz8_0
  try clear hfz8_1
  obtain ⟨kq, x21_3, rfl, HA, HJ3, HO_365000, HO_365001, BK364, HB⟩ := hcut
  cases kq with
  | zero => exact absurd HA.out (by simp [impl_SumTimes.j0])
  | succ kj3 =>
   have H := HA.out
   clear HA
   simp only [impl_SumTimes.j0] at H
   by_cases c12 : x21_3 = true
   ·subst c12
    replace H : (some ((⟨#[]⟩ : ByteArray), false)) = some (r1, r2) := by rw [if_pos rfl] at H; exact H
    simp only [Option.some.injEq, Prod.mk.injEq] at H
    obtain ⟨rfl, rfl⟩ := H
    go_wp2
    go_ret2
    exact ⟨by first | rfl | (simp [*, errW_none, errW_some] <;> rfl), HB.out⟩
   ·replace c12 := Bool.eq_false_iff.mpr c12
    subst c12
    replace H : (impl_SumTimes.l0 kj3 a0 (⟨#[49, 40, 48, 41]⟩ : ByteArray) a1 0) = some (r1, r2) := by rw [if_neg (show ¬ (false = true) by decide)] at H; exact H
    have H' := aM H
    clear H
    go_wp2
    go_loopg [8, 23] kj3 (fun kq v8 v23 w' => ∃ (x8_2 : ByteArray) (x23_2 : Int), v8 = .string x8_2 ∧ v23 = .int .i64 x23_2 ∧ Aside0 (impl_SumTimes.l0 kq a0 x8_2 a1 x23_2 = some (r1, r2)) ∧ Aside0 (kq ≤ kj3) ∧ Aside0 (Kd.R Kd.bool 4 w' w.heap.size (fun k_ => some k_ ≠ ((.slice Ao9 t360.length co9) : Value).ownBlock) (.slice Ao7 t357.length co7) t357) ∧ Aside0 (Kd.R Kd.bool 4 w' w.heap.size (fun k_ => some k_ ≠ ((.slice Ao7 t357.length co7) : Value).ownBlock) (.slice Ao9 t360.length co9) t360) ∧ Aside0 (w'.heap[gb364]? = some (.cells #[(.slice Ao7 t357.length co7), (.slice Ao9 t360.length co9)] 56 (0, 0))) ∧ Aside0 (Below w.heap.size w w'))
    case atStart => exact ⟨((⟨#[49, 40, 48, 41]⟩ : ByteArray)), (0), (by rfl), (by rfl), H', ⟨Nat.le_refl _⟩, ⟨by exact HO_365000.out⟩, ⟨by exact HO_365001.out⟩, ⟨by exact BK364.out⟩, ⟨HB.out⟩⟩
    case round =>
     clear H'
     obtain ⟨x8_2, x23_2, rfl, rfl, HA, HK2, HO_365000, HO_365001, BK364, HB⟩ := hrel
     cases gk with
     | zero => exact absurd HA.out (by simp [impl_SumTimes.l0])
     | succ k2 =>
      have H := HA.out
      clear HA
      simp only [impl_SumTimes.l0] at H
      by_cases c13 : x23_2 < a1
      ·rw [if_pos c13] at H
       have c13b0 : decide (x23_2 < a1) = true := decide_eq_true c13
       clear c13
       replace H := Option.bind_eq_some_iff.mp H
       obtain ⟨⟨t366, t367⟩, A140, H⟩ := H
       replace H : (if t367 = true then (impl_SumTimes.l0 k2 a0 t366 a1 (wrap64 (x23_2 + 1))) else (some ((⟨#[]⟩ : ByteArray), false))) = some (r1, r2) := H
       have A14 := aM A140
       clear A140
       by_cases c15 : t367 = true
       ·subst c15
        replace H : (impl_SumTimes.l0 k2 a0 t366 a1 (wrap64 (x23_2 + 1))) = some (r1, r2) := by rw [if_pos rfl] at H; exact H
        have H' := aM H
        clear H
        go_wp2_with (first | ((with_reducible refine gate_callee (f := 48) rfl ?_); refine goesL_ (some 28) rfl rfl Try.func48 (by kernel_rfl) rfl #[.string x8_2, .string a0] rfl (by (try simp only [List.map_toArray, List.map_cons, List.map_nil]); rfl) ?_; (with_reducible refine (impl_SumOf.calls k2 x8_2 a0 t366 true _ A14.out).mono ?_); rintro e w16 ⟨rfl, hb⟩; refine ⟨_, rfl, ?_⟩; replace HO_365000 := aM (Kd.R_below HO_365000.out hb); replace HO_365001 := aM (Kd.R_below HO_365001.out hb); replace BK364 := aM (blk_below (g := gb364) (o := .cells #[.slice Ao7 t357.length co7, .slice Ao9 t360.length co9] 56 (0, 0)) BK364.out hb); replace HB := aM (below_step HB.out hb); (try clear hb)))
        go_roundg k2
        case measure => have := HJ3.out; have := HK2.out; omega
        case rel => exact ⟨(t366), (wrap64 (x23_2 + 1)), (by rfl), (by rfl), H', ⟨by have := HJ3.out; have := HK2.out; omega⟩, ⟨by exact HO_365000.out⟩, ⟨by exact HO_365001.out⟩, ⟨by exact BK364.out⟩, ⟨HB.out⟩⟩
       ·replace c15 := Bool.eq_false_iff.mpr c15
        subst c15
        replace H : (some ((⟨#[]⟩ : ByteArray), false)) = some (r1, r2) := by rw [if_neg (show ¬ (false = true) by decide)] at H; exact H
        simp only [Option.some.injEq, Prod.mk.injEq] at H
        obtain ⟨rfl, rfl⟩ := H
        go_wp2_with (first | ((with_reducible refine gate_callee (f := 48) rfl ?_); refine goesL_ (some 28) rfl rfl Try.func48 (by kernel_rfl) rfl #[.string x8_2, .string a0] rfl (by (try simp only [List.map_toArray, List.map_cons, List.map_nil]); rfl) ?_; (with_reducible refine (impl_SumOf.calls k2 x8_2 a0 t366 false _ A14.out).mono ?_); rintro e w17 ⟨rfl, hb⟩; refine ⟨_, rfl, ?_⟩; replace HO_365000 := aM (Kd.R_below HO_365000.out hb); replace HO_365001 := aM (Kd.R_below HO_365001.out hb); replace BK364 := aM (blk_below (g := gb364) (o := .cells #[.slice Ao7 t357.length co7, .slice Ao9 t360.length co9] 56 (0, 0)) BK364.out hb); replace HB := aM (below_step HB.out hb); (try clear hb)))
        go_ret2
        exact ⟨by first | rfl | (simp [*, errW_none, errW_some] <;> rfl), HB.out⟩
      ·rw [if_neg c13] at H
       have c13b0 : decide (x23_2 < a1) = false := decide_eq_false c13
       clear c13
       simp only [Option.some.injEq, Prod.mk.injEq] at H
       obtain ⟨rfl, rfl⟩ := H
       go_wp2
       go_ret2
       exact ⟨by first | rfl | (simp [*, errW_none, errW_some] <;> rfl), HB.out⟩

end Go.Proofs.Ytedhckahjinieaa.Q
