/- The law FnSolveOne holds for all that it draws. -/
import Derived.Laws.BitsLemmas
import Derived.Test.YtpkpgdlbgcjloaaCFnSolveOne1
import Derived.Test.YtpkpgdlbgcjloaaCFnSolveOne8
import Derived.Test.YtpkpgdlbgcjloaaCFnSolveOne9
import Derived.Test.YtpkpgdlbgcjloaaCFnSolveOne10
import Derived.Test.YtpkpgdlbgcjloaaCFnSolveOne11
import Derived.Test.YtpkpgdlbgcjloaaCFnSolveOne12
namespace Go.Proofs.Ytpkpgdlbgcjloaa.Q
open Go.RowKit Go.Proofs.YtpkpgdlbgcjloaaW.PrintWords Go.Proofs.YtpkpgdlbgcjloaaW.PrintLast Go.Proofs.YtpkpgdlbgcjloaaW.PrintMore
attribute [local go_sem] max2_int min2_int max_two min_two max_three min_three max_four min_four   -- for this text's walks alone
set_option linter.unusedVariables false
set_option linter.unusedSimpArgs false
def impl_pair.p (z : Bool → Bool → Bool) (l0 l1 l2 l3 : List Bool) (n : Int) : Option Bool := (impl_set_has.f l0 l1 n).bind fun a => (impl_set_has.f l2 l3 n).bind fun b => some (z a b)
def impl_pair.f (k : Nat) (a0 a1 : ByteArray) (z : Bool → Bool → Bool) : Option (ByteArray × Bool) :=
 (impl_setOf.f a0).bind fun x => (impl_setOf.f a1).bind fun y => if x.2.2 = true then (if y.2.2 = true then (impl_both.f k x.1 x.2.1 y.1 y.2.1).bind fun q => impl_made.f k q.1 q.2 (impl_pair.p z x.1 x.2.1 y.1 y.2.1) else some (⟨#[]⟩, false)) else some (⟨#[]⟩, false)
theorem impl_pair.mono : ∀ a0 a1 z k, LeO (impl_pair.f k a0 a1 z) (impl_pair.f (k + 1) a0 a1 z) := by
 intro a0 a1 z k
 unfold impl_pair.f
 repeat' first | (with_reducible exact impl_both.mono _ _ _ _ _) | (with_reducible exact impl_made.mono _ _ (fun _ => LeO.refl _) _ _ _) | (with_reducible exact LeO.refl _) | (with_reducible refine LeO.ite ?_ ?_) | (with_reducible refine LeO.bind ?_ (fun _ => ?_))
/-- What the function that is handed in answers. -/
def impl_pair.Two (w : World) (g0 : Nat) (z : Bool → Bool → Bool) : Prop := ∀ (a b : Bool) (W : World), Below w.heap.size w W → Calls Try.prog g0 #[.bool a, .bool b] W fun e W' => e = .returned (.bool (z a b)) ∧ Below W.heap.size W W'
def impl_pair.T1 : Bool × List (List Nat × List Nat) := (true, [([], []), ([], []), ([], []), ([1, 2], [1, 2]), ([], []), ([], []), ([4, 5, 3], [4, 5]), ([0, 3, 6, 6], [0, 3, 6]), ([7, 7, 0, 1, 2, 3, 4, 5, 6, 7], [7])])
def impl_pair.B1 : List Nat := [0, 0, 0, 6, 0, 0, 62, 127, 255]
theorem impl_pair.tab1 : rtab .any (opsOf Try.f113 1) = impl_pair.T1 := by kernel_rfl
theorem impl_pair.bits1 : waitsOk impl_pair.T1.2 impl_pair.B1 = true := by kernel_rfl
theorem impl_pair.goesV_ {P : Program} {ops : Array Oper} {Q : Exit → Act → World → Prop} {oi : Oper} {N : Option Tmp} {a : Act} {w : World} {K : Act → World → Prop} {c : Operand} {g : FuncId} {lb : Array Value} (eg : ∀ args w, (callFunc g args).run P w = .ok (.enter g args) w) {ars : Array Operand} {ts : Array TypeId} (args : Array Value)
  (hw : Region.wanted oi (yielded ops a.tmps) = true) (hN : oi.dst = N) (hop : oi.op = .call { callee := .value c, args := ars, argTypes := ts }) (hc : a.eval c = .func (.func g) #[] lb) (hargs : ars.map a.eval = args)
  (h : Calls P g (args ++ lb) w fun e w' => ∃ v, e = .returned v ∧ K (a.put N v) w') : if Region.wanted oi (yielded ops a.tmps) = true then Oper.wp P oi a w K Q else K (a.put N undef) w := by
 refine call_ g (args ++ lb) hw hN ?_ h
 have he := eg (args ++ lb) w
 unfold execOp
 simp [hop, hc, resolve, Deferred.ofValue, invoke, hargs, he]
set_option maxHeartbeats 2000000 in
set_option maxRecDepth 100000 in
theorem impl_pair.lit (g0 : Nat) (z : Bool → Bool → Bool) (w : World) (eg0 : ∀ args w, (callFunc g0 args).run Try.prog w = .ok (.enter g0 args) w) (hz : impl_pair.Two w g0 z)
  (B1 B2 B3 : Nat) (A0 : Option Addr) (c0 : Nat) (l0 : List Bool) (A1 : Option Addr) (c1 : Nat) (l1 : List Bool) (A2 : Option Addr) (c2 : Nat) (l2 : List Bool) (A3 : Option Addr) (c3 : Nat) (l3 : List Bool) (n : Int) (b : Bool) (W : World) (hw : Below w.heap.size w W)
  (h1 : W.heap[B1]? = some (.cells #[.func (.func g0) #[] #[]] 90 (0, 0))) (h2 : W.heap[B2]? = some (.cells #[.slice A0 l0.length c0, .slice A1 l1.length c1] 60 (0, 0))) (h3 : W.heap[B3]? = some (.cells #[.slice A2 l2.length c2, .slice A3 l3.length c3] 60 (0, 0)))
  (r0 : Kd.C Kd.bool W A0 l0.length l0) (q0 : l0.length ≤ c0) (r1 : Kd.C Kd.bool W A1 l1.length l1) (q1 : l1.length ≤ c1) (r2 : Kd.C Kd.bool W A2 l2.length l2) (q2 : l2.length ≤ c2) (r3 : Kd.C Kd.bool W A3 l3.length l3) (q3 : l3.length ≤ c3) (h : impl_pair.p z l0 l1 l2 l3 n = some b) :
  Calls Try.prog 113 #[.int .i64 n, .pointer (some ⟨B1, 0, none⟩), .pointer (some ⟨B2, 0, none⟩), .pointer (some ⟨B3, 0, none⟩)] W fun e W' => e = .returned (.bool b) ∧ Below W.heap.size W W' := by
 unfold impl_pair.p at h
 obtain ⟨x, hx, h⟩ := Option.bind_eq_some_iff.mp h
 obtain ⟨y, hy, h⟩ := Option.bind_eq_some_iff.mp h
 obtain rfl := Option.some.inj h
 have BF := aM h1; have BA := aM h2; have BB := aM h3; have K0 := aM r0; have K1 := aM r1; have K2 := aM r2; have K3 := aM r3; have HX := aM hx; have HY := aM hy; have HZ := aM hz; have EG := aM eg0
 have HW := aM hw; have HB := aM (Below.refl W.heap.size W)
 clear h1 h2 h3 r0 r1 r2 r3 hx hy hz eg0 hw h
 go_enter Try.func113, Try.ntmps113
 go_wp2
 have d0_ := aM (kD BF.out); have d1_ := aM (kD BA.out); have d2_ := aM (kD BB.out); have d3_ := aM (Kd.C_drew K0.out); have d4_ := aM (Kd.C_drew K1.out); have d5_ := aM (Kd.C_drew K2.out); have d6_ := aM (Kd.C_drew K3.out); have d7_ := aM (b1 HB.out); have d8_ := aM (b1 HW.out)
 clear BF BA BB K0 K1 K2 K3 HB HW
 have BF := d0_; have BA := d1_; have BB := d2_; have K0 := d3_; have K1 := d4_; have K2 := d5_; have K3 := d6_; have HB := d7_; have HW := d8_
 clear d0_ d1_ d2_ d3_ d4_ d5_ d6_ d7_ d8_
 refine start_ (n := 9) (S := fun w' => w'.cell? ⟨B1, 0, none⟩ = some (.func (.func g0) #[] #[]) ∧ w'.cell? ⟨B2, 0, none⟩ = some (.slice A0 l0.length c0) ∧ w'.cell? ⟨B2, 1, none⟩ = some (.slice A1 l1.length c1) ∧ w'.cell? ⟨B3, 0, none⟩ = some (.slice A2 l2.length c2) ∧ w'.cell? ⟨B3, 1, none⟩ = some (.slice A3 l3.length c3)) (ds := []) #[false, false, false, false, false, false, false, false, false] (by kernel_rfl) rfl rfl ⟨(blk_cell BF.out 0).trans rfl, (blk_cell BA.out 0).trans rfl, (blk_cell BA.out 1).trans rfl, (blk_cell BB.out 0).trans rfl, (blk_cell BB.out 1).trans rfl⟩ (fun hHeld => ?_); refine with_tabW impl_pair.tab1 impl_pair.bits1 (fun HT_ HW_ => ?_)
 generalize W.drew = W1 at BF BA BB K0 K1 K2 K3 HB HW hHeld ⊢
 refine pure_ (i := 2) (N := some 8) (v := ?_) (a' := ?_) #[false, false, true, false, false, false, false, false, false] rfl rfl (any_of HT_.out (by kernel_rfl)) (fun _ _ _ h => h) (Or.inl ⟨by rfl, ?_⟩) ?_ ?_
 rotate_left
 ·intro w'
  go_simp
  with_reducible rfl
 rotate_left
 ·simp only [Act.put, sA, sZ, sS, i64_w, i32_w]
  rfl
 refine pure_ (i := 5) (N := some 11) (v := ?_) (a' := ?_) #[false, false, true, false, false, true, false, false, false] rfl rfl (any_of HT_.out (by kernel_rfl)) (fun _ _ _ h => h) (Or.inl ⟨by rfl, ?_⟩) ?_ ?_
 rotate_left
 ·intro w'
  go_simp
  with_reducible rfl
 rotate_left
 ·simp only [Act.put, sA, sZ, sS, i64_w, i32_w]
  rfl
 refine take_ (i := 0) (N := some 6) (v := ?_) (a' := ?_) #[true, false, true, false, false, true, false, false, false] rfl rfl (take_ofW HT_.out HW_.out (by kernel_rfl)) (fun _ _ _ h => h) (Or.inl ⟨by rfl, ?_⟩) hHeld ?_ ?_
 rotate_left
 ·rintro w' ⟨s0, s1, s2, s3, s4⟩
  go_simp
  with_reducible rfl
 rotate_left
 ·simp only [Act.put, sA, sZ, sS, i64_w, i32_w]
  rfl
 refine take_ (i := 1) (N := some 7) (v := ?_) (a' := ?_) #[true, true, true, false, false, true, false, false, false] rfl rfl (take_ofW HT_.out HW_.out (by kernel_rfl)) (fun _ _ _ h => h) (Or.inl ⟨by rfl, ?_⟩) hHeld ?_ ?_
 rotate_left
 ·rintro w' ⟨s0, s1, s2, s3, s4⟩
  go_simp
  with_reducible rfl
 rotate_left
 ·simp only [Act.put, sA, sZ, sS, i64_w, i32_w]
  rfl
 refine take_ (i := 4) (N := some 10) (v := ?_) (a' := ?_) #[true, true, true, false, true, true, false, false, false] rfl rfl (take_ofW HT_.out HW_.out (by kernel_rfl)) (fun _ _ _ h => h) (Or.inl ⟨by rfl, ?_⟩) hHeld ?_ ?_
 rotate_left
 ·rintro w' ⟨s0, s1, s2, s3, s4⟩
  go_simp
  with_reducible rfl
 rotate_left
 ·simp only [Act.put, sA, sZ, sS, i64_w, i32_w]
  rfl
 refine one_ (i := 3) (N := some 9) #[true, true, true, true, true, true, false, false, false] rfl rfl (one_of HT_.out (by kernel_rfl)) (by decide) (fun K hK => ?_)
 refine goes_ Try.func61 (by kernel_rfl) rfl #[.agg #[.slice A0 l0.length c0, .slice A1 l1.length c1], .int .i64 n] (by rfl) rfl rfl (by (try simp only [List.map_toArray, List.map_cons, List.map_nil]); rfl) ?_
 refine (impl_set_has.calls A0 c0 l0 A1 c1 l1 n x _ K0.out q0 K1.out q1 HX.out).mono ?_
 rintro e w1 ⟨rfl, hb⟩
 refine ⟨_, rfl, ?_⟩
 replace BF := aM (blk_below BF.out hb)
 replace BA := aM (blk_below BA.out hb)
 replace BB := aM (blk_below BB.out hb)
 replace K0 := aM (Kd.C_below K0.out hb)
 replace K1 := aM (Kd.C_below K1.out hb)
 replace K2 := aM (Kd.C_below K2.out hb)
 replace K3 := aM (Kd.C_below K3.out hb)
 replace HB := aM (below_step HB.out hb)
 replace HW := aM (below_step HW.out hb)
 clear hb
 refine hK.out _ _ ⟨(blk_cell BF.out 0).trans rfl, (blk_cell BA.out 0).trans rfl, (blk_cell BA.out 1).trans rfl, (blk_cell BB.out 0).trans rfl, (blk_cell BB.out 1).trans rfl⟩ (fun hHeld => ?_)
 clear hK K
 refine norm_ (a' := ?_) ?_ ?_
 rotate_left
 ·show Act.put _ (some 9) _ = _
  simp only [Act.put, sA, sZ, sS, i64_w, i32_w]
  rfl
 refine one_ (i := 6) (N := some 12) #[true, true, true, true, true, true, true, false, false] rfl rfl (one_of HT_.out (by kernel_rfl)) (by decide) (fun K hK => ?_)
 refine goes_ Try.func61 (by kernel_rfl) rfl #[.agg #[.slice A2 l2.length c2, .slice A3 l3.length c3], .int .i64 n] (by rfl) rfl rfl (by (try simp only [List.map_toArray, List.map_cons, List.map_nil]); rfl) ?_
 refine (impl_set_has.calls A2 c2 l2 A3 c3 l3 n y _ K2.out q2 K3.out q3 HY.out).mono ?_
 rintro e w1 ⟨rfl, hb⟩
 refine ⟨_, rfl, ?_⟩
 replace BF := aM (blk_below BF.out hb)
 replace BA := aM (blk_below BA.out hb)
 replace BB := aM (blk_below BB.out hb)
 replace K0 := aM (Kd.C_below K0.out hb)
 replace K1 := aM (Kd.C_below K1.out hb)
 replace K2 := aM (Kd.C_below K2.out hb)
 replace K3 := aM (Kd.C_below K3.out hb)
 replace HB := aM (below_step HB.out hb)
 replace HW := aM (below_step HW.out hb)
 clear hb
 refine hK.out _ _ ⟨(blk_cell BF.out 0).trans rfl, (blk_cell BA.out 0).trans rfl, (blk_cell BA.out 1).trans rfl, (blk_cell BB.out 0).trans rfl, (blk_cell BB.out 1).trans rfl⟩ (fun hHeld => ?_)
 clear hK K
 refine norm_ (a' := ?_) ?_ ?_
 rotate_left
 ·show Act.put _ (some 12) _ = _
  simp only [Act.put, sA, sZ, sS, i64_w, i32_w]
  rfl
 refine one_ (i := 7) (N := some 13) #[true, true, true, true, true, true, true, true, false] rfl rfl (one_of HT_.out (by kernel_rfl)) (by decide) (fun K hK => ?_)
 refine impl_pair.goesV_ EG.out #[.bool x, .bool y] (by rfl) rfl rfl (by rfl) (by (try simp only [List.map_toArray, List.map_cons, List.map_nil]); rfl) ?_
 refine (HZ.out x y _ HW.out).mono ?_
 rintro e w1 ⟨rfl, hb⟩
 refine ⟨_, rfl, ?_⟩
 replace BF := aM (blk_below BF.out hb)
 replace BA := aM (blk_below BA.out hb)
 replace BB := aM (blk_below BB.out hb)
 replace K0 := aM (Kd.C_below K0.out hb)
 replace K1 := aM (Kd.C_below K1.out hb)
 replace K2 := aM (Kd.C_below K2.out hb)
 replace K3 := aM (Kd.C_below K3.out hb)
 replace HB := aM (below_step HB.out hb)
 replace HW := aM (below_step HW.out hb)
 clear hb
 refine hK.out _ _ ⟨(blk_cell BF.out 0).trans rfl, (blk_cell BA.out 0).trans rfl, (blk_cell BA.out 1).trans rfl, (blk_cell BB.out 0).trans rfl, (blk_cell BB.out 1).trans rfl⟩ (fun hHeld => ?_)
 clear hK K
 refine norm_ (a' := ?_) ?_ ?_
 rotate_left
 ·show Act.put _ (some 13) _ = _
  simp only [Act.put, sA, sZ, sS, i64_w, i32_w]
  rfl
 refine pure_ (i := 8) (N := some 5) (v := ?_) (a' := ?_) #[true, true, true, true, true, true, true, true, true] rfl rfl (any_of HT_.out (by kernel_rfl)) (fun _ _ _ h => h) (Or.inl ⟨by rfl, ?_⟩) ?_ ?_
 rotate_left
 ·intro w'
  go_simp
  with_reducible rfl
 rotate_left
 ·simp only [Act.put, sA, sZ, sS, i64_w, i32_w]
  rfl
 refine done_ (done_of HT_.out (by kernel_rfl)) ?_
 try go_wp2
 go_ret
 exact ⟨rfl, HB.out⟩
set_option maxHeartbeats 4000000 in
set_option maxRecDepth 100000 in
theorem impl_pair.calls (k : Nat) (a0 a1 : ByteArray) (g0 : Nat) (z : Bool → Bool → Bool) (r1' : ByteArray) (r2' : Bool) (w : World) (eg0 : ∀ args w, (callFunc g0 args).run Try.prog w = .ok (.enter g0 args) w) (hz : impl_pair.Two w g0 z) (h : impl_pair.f k a0 a1 z = some (r1', r2')) :
  Calls Try.prog 82 #[.string a0, .string a1, .func (.func g0) #[] #[]] w fun e w' => e = .returned (.tuple #[.string r1', .bool r2']) ∧ Below w.heap.size w w' := by
 have hmf : ∀ (fn : Fn) (first cap : Array Value) (w : World), (Instr.makeFunc fn first cap).run Try.prog w = .ok (.func fn first cap) w := fun _ _ _ _ => rfl
 unfold impl_pair.f at h
 obtain ⟨⟨t0, r0, o0⟩, hs, h⟩ := Option.bind_eq_some_iff.mp h
 obtain ⟨⟨t1, r1, o1⟩, hu, h⟩ := Option.bind_eq_some_iff.mp h
 have HZ := aM hz; have EG := aM eg0
 clear hz eg0
 have BZ := aM (blk_new w (.cells #[.func (.func g0) #[] #[]] 90))
 have HB : Aside0 (Below w.heap.size w (w.alloc (.cells #[.func (.func g0) #[] #[]] 90))) := ⟨(Below.refl _ w).alloc (Nat.le_refl _) _⟩
 cases o0 with
 | false =>
  simp only [Bool.false_eq_true, if_false, Option.some.injEq, Prod.mk.injEq] at h
  obtain ⟨rfl, rfl⟩ := h
  have HS := aM hs
  cases o1 with
  | false =>
   have HU := aM hu
   clear hs hu
   go_enter Try.func82, Try.ntmps82
   go_wp2_with (first | ((with_reducible refine gate_callee (f := 60) rfl ?_); refine goesL_ (some 16) rfl rfl Try.func60 (by kernel_rfl) rfl #[.string a0] rfl (by (try simp only [List.map_toArray, List.map_cons, List.map_nil]); rfl) ?_; refine (impl_setOf.calls a0 t0 r0 false _ HS.out).mono ?_; rintro e w0 ⟨v0, v1, rfl, ho0, ho1, hb⟩; refine ⟨_, rfl, ?_⟩; obtain ⟨A0, c0, rfl, q0, k0⟩ := Kd.R_reads ho0; obtain ⟨A1, c1, rfl, q1, k1⟩ := Kd.R_reads ho1; replace BZ := aM (blk_below BZ.out hb); replace HB := aM (below_step HB.out hb); have K0 := aM k0; have K1 := aM k1; (try clear hb)) | ((with_reducible refine gate_dst (N := 8) rfl ?_); refine box_event ?hg (N := 8) ?hd (cs := #[.slice none 0 0, .slice none 0 0]) (t := 60) ?hr ?_; (case hd => rfl); (case hg => rfl); (case hr => first | (go_simp; done)); intro gb0 hg wb0 hbox hb; have cb00_ := blk_cell hbox 0; have fb00_ := blk_frozen hbox 0; have cb01_ := blk_cell hbox 1; have fb01_ := blk_frozen hbox 1; have hbs := ((hb).setCell (p := ⟨gb0, 0, none⟩) (by rw [hg]; exact Nat.le_refl _) (.slice A0 t0.length c0)).setCell (p := ⟨gb0, 1, none⟩) (by rw [hg]; exact Nat.le_refl _) (.slice A1 r0.length c1); replace BZ := aM (blk_below BZ.out hbs); replace HB := aM (below_step HB.out hbs); replace K0 := aM (Kd.C_below K0.out hbs); replace K1 := aM (Kd.C_below K1.out hbs); have BA := aM (impl_starred.set2 (u' := .slice A0 t0.length c0) (v' := .slice A1 r0.length c1) hbox); clear hg hb hbox hbs) | ((with_reducible refine gate_callee (f := 60) rfl ?_); refine goesL_ (some 21) rfl rfl Try.func60 (by kernel_rfl) rfl #[.string a1] rfl (by (try simp only [List.map_toArray, List.map_cons, List.map_nil]); rfl) ?_; refine (impl_setOf.calls a1 t1 r1 false _ HU.out).mono ?_; rintro e w1 ⟨v0, v1, rfl, ho0, ho1, hb⟩; refine ⟨_, rfl, ?_⟩; obtain ⟨A2, c2, rfl, q2, k0⟩ := Kd.R_reads ho0; obtain ⟨A3, c3, rfl, q3, k1⟩ := Kd.R_reads ho1; replace BZ := aM (blk_below BZ.out hb); replace HB := aM (below_step HB.out hb); replace K0 := aM (Kd.C_below K0.out hb); replace K1 := aM (Kd.C_below K1.out hb); replace BA := aM (blk_below BA.out hb); have K2 := aM k0; have K3 := aM k1; (try clear hb)) | ((with_reducible refine gate_dst (N := 10) rfl ?_); refine box_event ?hg (N := 10) ?hd (cs := #[.slice none 0 0, .slice none 0 0]) (t := 60) ?hr ?_; (case hd => rfl); (case hg => rfl); (case hr => first | (go_simp; done)); intro gb1 hg wb1 hbox hb; have cb10_ := blk_cell hbox 0; have fb10_ := blk_frozen hbox 0; have cb11_ := blk_cell hbox 1; have fb11_ := blk_frozen hbox 1; have x0_ : wb1.cell? ⟨gb0, 0, none⟩ = some (.slice A0 t0.length c0) := blk_cell (blk_below BA.out hb) 0; have x1_ : wb1.cell? ⟨gb0, 1, none⟩ = some (.slice A1 r0.length c1) := blk_cell (blk_below BA.out hb) 1; have xn_ : gb0 ≠ gb1 := (by have := blk_lt BA.out; omega); have xm_ : gb1 ≠ gb0 := (by omega); have hbs := ((hb).setCell (p := ⟨gb1, 0, none⟩) (by rw [hg]; exact Nat.le_refl _) (.slice A2 t1.length c2)).setCell (p := ⟨gb1, 1, none⟩) (by rw [hg]; exact Nat.le_refl _) (.slice A3 r1.length c3); replace BZ := aM (blk_below BZ.out hbs); replace HB := aM (below_step HB.out hbs); replace K0 := aM (Kd.C_below K0.out hbs); replace K1 := aM (Kd.C_below K1.out hbs); replace BA := aM (blk_below BA.out hbs); replace K2 := aM (Kd.C_below K2.out hbs); replace K3 := aM (Kd.C_below K3.out hbs); have BB := aM (impl_starred.set2 (u' := .slice A2 t1.length c2) (v' := .slice A3 r1.length c3) hbox); clear hg hb hbox hbs))
   go_ret2
   exact ⟨rfl, HB.out⟩
  | true =>
   have HU := aM hu
   clear hs hu
   go_enter Try.func82, Try.ntmps82
   go_wp2_with (first | ((with_reducible refine gate_callee (f := 60) rfl ?_); refine goesL_ (some 16) rfl rfl Try.func60 (by kernel_rfl) rfl #[.string a0] rfl (by (try simp only [List.map_toArray, List.map_cons, List.map_nil]); rfl) ?_; refine (impl_setOf.calls a0 t0 r0 false _ HS.out).mono ?_; rintro e w0 ⟨v0, v1, rfl, ho0, ho1, hb⟩; refine ⟨_, rfl, ?_⟩; obtain ⟨A0, c0, rfl, q0, k0⟩ := Kd.R_reads ho0; obtain ⟨A1, c1, rfl, q1, k1⟩ := Kd.R_reads ho1; replace BZ := aM (blk_below BZ.out hb); replace HB := aM (below_step HB.out hb); have K0 := aM k0; have K1 := aM k1; (try clear hb)) | ((with_reducible refine gate_dst (N := 8) rfl ?_); refine box_event ?hg (N := 8) ?hd (cs := #[.slice none 0 0, .slice none 0 0]) (t := 60) ?hr ?_; (case hd => rfl); (case hg => rfl); (case hr => first | (go_simp; done)); intro gb0 hg wb0 hbox hb; have cb00_ := blk_cell hbox 0; have fb00_ := blk_frozen hbox 0; have cb01_ := blk_cell hbox 1; have fb01_ := blk_frozen hbox 1; have hbs := ((hb).setCell (p := ⟨gb0, 0, none⟩) (by rw [hg]; exact Nat.le_refl _) (.slice A0 t0.length c0)).setCell (p := ⟨gb0, 1, none⟩) (by rw [hg]; exact Nat.le_refl _) (.slice A1 r0.length c1); replace BZ := aM (blk_below BZ.out hbs); replace HB := aM (below_step HB.out hbs); replace K0 := aM (Kd.C_below K0.out hbs); replace K1 := aM (Kd.C_below K1.out hbs); have BA := aM (impl_starred.set2 (u' := .slice A0 t0.length c0) (v' := .slice A1 r0.length c1) hbox); clear hg hb hbox hbs) | ((with_reducible refine gate_callee (f := 60) rfl ?_); refine goesL_ (some 21) rfl rfl Try.func60 (by kernel_rfl) rfl #[.string a1] rfl (by (try simp only [List.map_toArray, List.map_cons, List.map_nil]); rfl) ?_; refine (impl_setOf.calls a1 t1 r1 true _ HU.out).mono ?_; rintro e w1 ⟨v0, v1, rfl, ho0, ho1, hb⟩; refine ⟨_, rfl, ?_⟩; obtain ⟨A2, c2, rfl, q2, k0⟩ := Kd.R_reads ho0; obtain ⟨A3, c3, rfl, q3, k1⟩ := Kd.R_reads ho1; replace BZ := aM (blk_below BZ.out hb); replace HB := aM (below_step HB.out hb); replace K0 := aM (Kd.C_below K0.out hb); replace K1 := aM (Kd.C_below K1.out hb); replace BA := aM (blk_below BA.out hb); have K2 := aM k0; have K3 := aM k1; (try clear hb)) | ((with_reducible refine gate_dst (N := 10) rfl ?_); refine box_event ?hg (N := 10) ?hd (cs := #[.slice none 0 0, .slice none 0 0]) (t := 60) ?hr ?_; (case hd => rfl); (case hg => rfl); (case hr => first | (go_simp; done)); intro gb1 hg wb1 hbox hb; have cb10_ := blk_cell hbox 0; have fb10_ := blk_frozen hbox 0; have cb11_ := blk_cell hbox 1; have fb11_ := blk_frozen hbox 1; have x0_ : wb1.cell? ⟨gb0, 0, none⟩ = some (.slice A0 t0.length c0) := blk_cell (blk_below BA.out hb) 0; have x1_ : wb1.cell? ⟨gb0, 1, none⟩ = some (.slice A1 r0.length c1) := blk_cell (blk_below BA.out hb) 1; have xn_ : gb0 ≠ gb1 := (by have := blk_lt BA.out; omega); have xm_ : gb1 ≠ gb0 := (by omega); have hbs := ((hb).setCell (p := ⟨gb1, 0, none⟩) (by rw [hg]; exact Nat.le_refl _) (.slice A2 t1.length c2)).setCell (p := ⟨gb1, 1, none⟩) (by rw [hg]; exact Nat.le_refl _) (.slice A3 r1.length c3); replace BZ := aM (blk_below BZ.out hbs); replace HB := aM (below_step HB.out hbs); replace K0 := aM (Kd.C_below K0.out hbs); replace K1 := aM (Kd.C_below K1.out hbs); replace BA := aM (blk_below BA.out hbs); replace K2 := aM (Kd.C_below K2.out hbs); replace K3 := aM (Kd.C_below K3.out hbs); have BB := aM (impl_starred.set2 (u' := .slice A2 t1.length c2) (v' := .slice A3 r1.length c3) hbox); clear hg hb hbox hbs))
   go_ret2
   exact ⟨rfl, HB.out⟩
 | true =>
  have HS := aM hs
  cases o1 with
  | false =>
   simp only [Bool.false_eq_true, if_false, if_true, Option.some.injEq, Prod.mk.injEq] at h
   obtain ⟨rfl, rfl⟩ := h
   have HU := aM hu
   clear hs hu
   go_enter Try.func82, Try.ntmps82
   go_wp2_with (first | ((with_reducible refine gate_callee (f := 60) rfl ?_); refine goesL_ (some 16) rfl rfl Try.func60 (by kernel_rfl) rfl #[.string a0] rfl (by (try simp only [List.map_toArray, List.map_cons, List.map_nil]); rfl) ?_; refine (impl_setOf.calls a0 t0 r0 true _ HS.out).mono ?_; rintro e w0 ⟨v0, v1, rfl, ho0, ho1, hb⟩; refine ⟨_, rfl, ?_⟩; obtain ⟨A0, c0, rfl, q0, k0⟩ := Kd.R_reads ho0; obtain ⟨A1, c1, rfl, q1, k1⟩ := Kd.R_reads ho1; replace BZ := aM (blk_below BZ.out hb); replace HB := aM (below_step HB.out hb); have K0 := aM k0; have K1 := aM k1; (try clear hb)) | ((with_reducible refine gate_dst (N := 8) rfl ?_); refine box_event ?hg (N := 8) ?hd (cs := #[.slice none 0 0, .slice none 0 0]) (t := 60) ?hr ?_; (case hd => rfl); (case hg => rfl); (case hr => first | (go_simp; done)); intro gb0 hg wb0 hbox hb; have cb00_ := blk_cell hbox 0; have fb00_ := blk_frozen hbox 0; have cb01_ := blk_cell hbox 1; have fb01_ := blk_frozen hbox 1; have hbs := ((hb).setCell (p := ⟨gb0, 0, none⟩) (by rw [hg]; exact Nat.le_refl _) (.slice A0 t0.length c0)).setCell (p := ⟨gb0, 1, none⟩) (by rw [hg]; exact Nat.le_refl _) (.slice A1 r0.length c1); replace BZ := aM (blk_below BZ.out hbs); replace HB := aM (below_step HB.out hbs); replace K0 := aM (Kd.C_below K0.out hbs); replace K1 := aM (Kd.C_below K1.out hbs); have BA := aM (impl_starred.set2 (u' := .slice A0 t0.length c0) (v' := .slice A1 r0.length c1) hbox); clear hg hb hbox hbs) | ((with_reducible refine gate_callee (f := 60) rfl ?_); refine goesL_ (some 21) rfl rfl Try.func60 (by kernel_rfl) rfl #[.string a1] rfl (by (try simp only [List.map_toArray, List.map_cons, List.map_nil]); rfl) ?_; refine (impl_setOf.calls a1 t1 r1 false _ HU.out).mono ?_; rintro e w1 ⟨v0, v1, rfl, ho0, ho1, hb⟩; refine ⟨_, rfl, ?_⟩; obtain ⟨A2, c2, rfl, q2, k0⟩ := Kd.R_reads ho0; obtain ⟨A3, c3, rfl, q3, k1⟩ := Kd.R_reads ho1; replace BZ := aM (blk_below BZ.out hb); replace HB := aM (below_step HB.out hb); replace K0 := aM (Kd.C_below K0.out hb); replace K1 := aM (Kd.C_below K1.out hb); replace BA := aM (blk_below BA.out hb); have K2 := aM k0; have K3 := aM k1; (try clear hb)) | ((with_reducible refine gate_dst (N := 10) rfl ?_); refine box_event ?hg (N := 10) ?hd (cs := #[.slice none 0 0, .slice none 0 0]) (t := 60) ?hr ?_; (case hd => rfl); (case hg => rfl); (case hr => first | (go_simp; done)); intro gb1 hg wb1 hbox hb; have cb10_ := blk_cell hbox 0; have fb10_ := blk_frozen hbox 0; have cb11_ := blk_cell hbox 1; have fb11_ := blk_frozen hbox 1; have x0_ : wb1.cell? ⟨gb0, 0, none⟩ = some (.slice A0 t0.length c0) := blk_cell (blk_below BA.out hb) 0; have x1_ : wb1.cell? ⟨gb0, 1, none⟩ = some (.slice A1 r0.length c1) := blk_cell (blk_below BA.out hb) 1; have xn_ : gb0 ≠ gb1 := (by have := blk_lt BA.out; omega); have xm_ : gb1 ≠ gb0 := (by omega); have hbs := ((hb).setCell (p := ⟨gb1, 0, none⟩) (by rw [hg]; exact Nat.le_refl _) (.slice A2 t1.length c2)).setCell (p := ⟨gb1, 1, none⟩) (by rw [hg]; exact Nat.le_refl _) (.slice A3 r1.length c3); replace BZ := aM (blk_below BZ.out hbs); replace HB := aM (below_step HB.out hbs); replace K0 := aM (Kd.C_below K0.out hbs); replace K1 := aM (Kd.C_below K1.out hbs); replace BA := aM (blk_below BA.out hbs); replace K2 := aM (Kd.C_below K2.out hbs); replace K3 := aM (Kd.C_below K3.out hbs); have BB := aM (impl_starred.set2 (u' := .slice A2 t1.length c2) (v' := .slice A3 r1.length c3) hbox); clear hg hb hbox hbs))
   go_ret2
   exact ⟨rfl, HB.out⟩
  | true =>
   simp only [if_true] at h
   obtain ⟨⟨qa, qb⟩, hq, h⟩ := Option.bind_eq_some_iff.mp h
   have HU := aM hu; have HQ := aM hq; have H := aM h
   clear hs hu hq h
   go_enter Try.func82, Try.ntmps82
   go_wp2_with (first | ((with_reducible refine gate_callee (f := 60) rfl ?_); refine goesL_ (some 16) rfl rfl Try.func60 (by kernel_rfl) rfl #[.string a0] rfl (by (try simp only [List.map_toArray, List.map_cons, List.map_nil]); rfl) ?_; refine (impl_setOf.calls a0 t0 r0 true _ HS.out).mono ?_; rintro e w0 ⟨v0, v1, rfl, ho0, ho1, hb⟩; refine ⟨_, rfl, ?_⟩; obtain ⟨A0, c0, rfl, q0, k0⟩ := Kd.R_reads ho0; obtain ⟨A1, c1, rfl, q1, k1⟩ := Kd.R_reads ho1; replace BZ := aM (blk_below BZ.out hb); replace HB := aM (below_step HB.out hb); have K0 := aM k0; have K1 := aM k1; (try clear hb)) | ((with_reducible refine gate_dst (N := 8) rfl ?_); refine box_event ?hg (N := 8) ?hd (cs := #[.slice none 0 0, .slice none 0 0]) (t := 60) ?hr ?_; (case hd => rfl); (case hg => rfl); (case hr => first | (go_simp; done)); intro gb0 hg wb0 hbox hb; have cb00_ := blk_cell hbox 0; have fb00_ := blk_frozen hbox 0; have cb01_ := blk_cell hbox 1; have fb01_ := blk_frozen hbox 1; have hbs := ((hb).setCell (p := ⟨gb0, 0, none⟩) (by rw [hg]; exact Nat.le_refl _) (.slice A0 t0.length c0)).setCell (p := ⟨gb0, 1, none⟩) (by rw [hg]; exact Nat.le_refl _) (.slice A1 r0.length c1); replace BZ := aM (blk_below BZ.out hbs); replace HB := aM (below_step HB.out hbs); replace K0 := aM (Kd.C_below K0.out hbs); replace K1 := aM (Kd.C_below K1.out hbs); have BA := aM (impl_starred.set2 (u' := .slice A0 t0.length c0) (v' := .slice A1 r0.length c1) hbox); clear hg hb hbox hbs) | ((with_reducible refine gate_callee (f := 60) rfl ?_); refine goesL_ (some 21) rfl rfl Try.func60 (by kernel_rfl) rfl #[.string a1] rfl (by (try simp only [List.map_toArray, List.map_cons, List.map_nil]); rfl) ?_; refine (impl_setOf.calls a1 t1 r1 true _ HU.out).mono ?_; rintro e w1 ⟨v0, v1, rfl, ho0, ho1, hb⟩; refine ⟨_, rfl, ?_⟩; obtain ⟨A2, c2, rfl, q2, k0⟩ := Kd.R_reads ho0; obtain ⟨A3, c3, rfl, q3, k1⟩ := Kd.R_reads ho1; replace BZ := aM (blk_below BZ.out hb); replace HB := aM (below_step HB.out hb); replace K0 := aM (Kd.C_below K0.out hb); replace K1 := aM (Kd.C_below K1.out hb); replace BA := aM (blk_below BA.out hb); have K2 := aM k0; have K3 := aM k1; (try clear hb)) | ((with_reducible refine gate_dst (N := 10) rfl ?_); refine box_event ?hg (N := 10) ?hd (cs := #[.slice none 0 0, .slice none 0 0]) (t := 60) ?hr ?_; (case hd => rfl); (case hg => rfl); (case hr => first | (go_simp; done)); intro gb1 hg wb1 hbox hb; have cb10_ := blk_cell hbox 0; have fb10_ := blk_frozen hbox 0; have cb11_ := blk_cell hbox 1; have fb11_ := blk_frozen hbox 1; have x0_ : wb1.cell? ⟨gb0, 0, none⟩ = some (.slice A0 t0.length c0) := blk_cell (blk_below BA.out hb) 0; have x1_ : wb1.cell? ⟨gb0, 1, none⟩ = some (.slice A1 r0.length c1) := blk_cell (blk_below BA.out hb) 1; have xn_ : gb0 ≠ gb1 := (by have := blk_lt BA.out; omega); have xm_ : gb1 ≠ gb0 := (by omega); have hbs := ((hb).setCell (p := ⟨gb1, 0, none⟩) (by rw [hg]; exact Nat.le_refl _) (.slice A2 t1.length c2)).setCell (p := ⟨gb1, 1, none⟩) (by rw [hg]; exact Nat.le_refl _) (.slice A3 r1.length c3); replace BZ := aM (blk_below BZ.out hbs); replace HB := aM (below_step HB.out hbs); replace K0 := aM (Kd.C_below K0.out hbs); replace K1 := aM (Kd.C_below K1.out hbs); replace BA := aM (blk_below BA.out hbs); replace K2 := aM (Kd.C_below K2.out hbs); replace K3 := aM (Kd.C_below K3.out hbs); have BB := aM (impl_starred.set2 (u' := .slice A2 t1.length c2) (v' := .slice A3 r1.length c3) hbox); clear hg hb hbox hbs) | ((with_reducible refine gate_callee (f := 68) rfl ?_); refine goesL_ (some 33) rfl rfl Try.func68 (by kernel_rfl) rfl #[.agg #[.slice A0 t0.length c0, .slice A1 r0.length c1], .agg #[.slice A2 t1.length c2, .slice A3 r1.length c3]] rfl (by (try simp only [List.map_toArray, List.map_cons, List.map_nil]); rfl) ?_; refine (impl_both.calls k A0 c0 t0 A1 c1 r0 A2 c2 t1 A3 c3 r1 qa qb _ K0.out q0 K1.out q1 K2.out q2 K3.out q3 HQ.out).mono ?_; (try clear cb00_ cb01_ cb10_ cb11_ fb00_ fb01_ fb10_ fb11_ x0_ x1_); rintro e w5 ⟨rfl, hb⟩; refine ⟨_, rfl, ?_⟩; replace BZ := aM (blk_below BZ.out hb); replace HB := aM (below_step HB.out hb); replace K0 := aM (Kd.C_below K0.out hb); replace K1 := aM (Kd.C_below K1.out hb); replace BA := aM (blk_below BA.out hb); replace K2 := aM (Kd.C_below K2.out hb); replace K3 := aM (Kd.C_below K3.out hb); replace BB := aM (blk_below BB.out hb); have e0_ : w5.cell? ⟨gb0, 0, none⟩ = some (.slice A0 t0.length c0) := blk_cell BA.out 0; (try clear hb)) | ((with_reducible refine gate_callee (f := 79) rfl ?_); refine goesL_ (some 39) rfl rfl Try.func79 (by kernel_rfl) rfl #[.int .i64 qa, .int .i64 qb, .func (.func 113) #[] #[.pointer (some ⟨w.heap.size, 0, none⟩), .pointer (some ⟨gb0, 0, none⟩), .pointer (some ⟨gb1, 0, none⟩)]] rfl (by (try simp only [List.map_toArray, List.map_cons, List.map_nil]); rfl) ?_; refine (impl_made.calls k qa qb (impl_pair.p z t0 r0 t1 r1) 113 #[.pointer (some ⟨w.heap.size, 0, none⟩), .pointer (some ⟨gb0, 0, none⟩), .pointer (some ⟨gb1, 0, none⟩)] r1' r2' _ (fun args_ w_ => enters_ Try.func113 (by kernel_rfl) rfl args_ w_) ?hpx H.out).mono ?_; (case hpx => intro n_ b_ W_ hW_ hb_; exact impl_pair.lit g0 z w EG.out HZ.out w.heap.size gb0 gb1 A0 c0 t0 A1 c1 r0 A2 c2 t1 A3 c3 r1 n_ b_ W_ (below_step HB.out hW_) (blk_below BZ.out hW_) (blk_below BA.out hW_) (blk_below BB.out hW_) (Kd.C_below K0.out hW_) q0 (Kd.C_below K1.out hW_) q1 (Kd.C_below K2.out hW_) q2 (Kd.C_below K3.out hW_) q3 hb_); rintro e w6 ⟨rfl, hb⟩; refine ⟨_, rfl, ?_⟩; replace BZ := aM (blk_below BZ.out hb); replace HB := aM (below_step HB.out hb); replace K0 := aM (Kd.C_below K0.out hb); replace K1 := aM (Kd.C_below K1.out hb); replace BA := aM (blk_below BA.out hb); replace K2 := aM (Kd.C_below K2.out hb); replace K3 := aM (Kd.C_below K3.out hb); replace BB := aM (blk_below BB.out hb); (try clear hb)))
   go_ret2
   exact ⟨rfl, HB.out⟩
end Go.Proofs.Ytpkpgdlbgcjloaa.Q

namespace Go.Proofs.Ytpkpgdlbgcjloaa.Q
open Go.RowKit Go.Proofs.YtpkpgdlbgcjloaaW.PrintWords Go.Proofs.YtpkpgdlbgcjloaaW.PrintLast Go.Proofs.YtpkpgdlbgcjloaaW.PrintMore
attribute [local go_sem] max2_int min2_int max_two min_two max_three min_three max_four min_four   -- for this text's walks alone
set_option linter.unusedVariables false
set_option linter.unusedSimpArgs false

end Go.Proofs.Ytpkpgdlbgcjloaa.Q

namespace Go.Proofs.Ytpkpgdlbgcjloaa.Q
open Go.RowKit Go.Proofs.YtpkpgdlbgcjloaaW.PrintWords Go.Proofs.YtpkpgdlbgcjloaaW.PrintLast Go.Proofs.YtpkpgdlbgcjloaaW.PrintMore
attribute [local go_sem] max2_int min2_int max_two min_two max_three min_three max_four min_four   -- for this text's walks alone
set_option linter.unusedVariables false
set_option linter.unusedSimpArgs false

end Go.Proofs.Ytpkpgdlbgcjloaa.Q

namespace Go.Proofs.Ytpkpgdlbgcjloaa.Q
open Go.RowKit Go.Proofs.YtpkpgdlbgcjloaaW.PrintWords Go.Proofs.YtpkpgdlbgcjloaaW.PrintLast Go.Proofs.YtpkpgdlbgcjloaaW.PrintMore
attribute [local go_sem] max2_int min2_int max_two min_two max_three min_three max_four min_four   -- for this text's walks alone
set_option linter.unusedVariables false
set_option linter.unusedSimpArgs false
def spec_SolveMost.j0 : Nat → ByteArray → ByteArray → Bool → List Bool → List Bool → Option (ByteArray × Bool)
 | 0, _, _, _, _, _ => none
 | k + 1, x0, x1, x25, x953000, x953001 => if x25 = true then (some ((⟨#[]⟩ : ByteArray), false)) else ((spec_l1Has.f x953000 x953001 0).bind fun t961 => (if t961 = true then (some ((⟨#[40, 49, 41]⟩ : ByteArray), true)) else ((spec_SolveLeast.f k x0 x1).bind fun bt962 => (some (bt962.1, bt962.2)))))
def spec_SolveMost.f (k : Nat) (a0 : ByteArray) (a1 : ByteArray) : Option (ByteArray × Bool) := (spec_l4Small.f k a0).bind fun bt945 => ((spec_l4Small.f k a1).bind fun bt953 => (if bt945.2.2 = true then (spec_SolveMost.j0 k a0 a1 (!bt953.2.2) bt945.1 bt945.2.1) else (spec_SolveMost.j0 k a0 a1 true bt945.1 bt945.2.1)))

def impl_StarPlus.f (k : Nat) (a0 : ByteArray) : Option (ByteArray × Bool) := impl_starred.f k a0 (fun t_ r_ => impl_set_has.f t_ r_ 0)
theorem impl_StarPlus.mono : ∀ a0 k, LeO (impl_StarPlus.f k a0) (impl_StarPlus.f (k + 1) a0) := fun a0 k => impl_starred.mono a0 _ k
set_option maxHeartbeats 1000000 in
set_option maxRecDepth 100000 in
theorem impl_StarPlus.zero (w : World) : impl_starred.Zero w 72 #[] (fun t_ r_ => impl_set_has.f t_ r_ 0) := by
 intro A0 c0 l0 A1 c1 l1 b W _ r0 q0 r1 q1 h
 have C := fun (o : Obj) => impl_set_has.calls A0 c0 l0 A1 c1 l1 0 b (W.alloc o) (Kd.C_alloc r0 o) q0 (Kd.C_alloc r1 o) q1 h
 clear h r0 q0 r1 q1
 go_enter Try.func72, Try.ntmps72
 go_wp2_with (go_at_call 61; refine (C _).mono ?_; rintro e w' ⟨rfl, hb⟩)
 go_ret
 exact ⟨rfl, below_step ((Below.refl _ W).alloc (Nat.le_refl _) _) hb⟩
set_option maxHeartbeats 1000000 in
set_option maxRecDepth 100000 in
theorem impl_StarPlus.calls (k : Nat) (a0 : ByteArray) (r1 : ByteArray) (r2 : Bool) (w : World) (h : impl_StarPlus.f k a0 = some (r1, r2)) :
  Calls Try.prog 29 #[.string a0] w fun e w' => e = .returned (.tuple #[.string r1, .bool r2]) ∧ Below w.heap.size w w' := by
 have C := impl_starred.calls k a0 72 _ r1 r2 w (fun args_ w_ => enters_ Try.func72 (by kernel_rfl) rfl args_ w_) (impl_StarPlus.zero w) h
 clear h
 go_enter Try.func29, Try.ntmps29
 go_wp2_with (go_at_call 71; refine C.mono ?_; rintro e w' ⟨rfl, hb⟩)
 go_ret2
 exact ⟨rfl, hb⟩
end Go.Proofs.Ytpkpgdlbgcjloaa.Q

namespace Go.Proofs.Ytpkpgdlbgcjloaa.Q
open Go.RowKit Go.Proofs.YtpkpgdlbgcjloaaW.PrintWords Go.Proofs.YtpkpgdlbgcjloaaW.PrintLast Go.Proofs.YtpkpgdlbgcjloaaW.PrintMore
attribute [local go_sem] max2_int min2_int max_two min_two max_three min_three max_four min_four   -- for this text's walks alone
set_option linter.unusedVariables false
set_option linter.unusedSimpArgs false

end Go.Proofs.Ytpkpgdlbgcjloaa.Q

namespace Go.Proofs.Ytpkpgdlbgcjloaa.Q
open Go.RowKit Go.Proofs.YtpkpgdlbgcjloaaW.PrintWords Go.Proofs.YtpkpgdlbgcjloaaW.PrintLast Go.Proofs.YtpkpgdlbgcjloaaW.PrintMore
attribute [local go_sem] max2_int min2_int max_two min_two max_three min_three max_four min_four   -- for this text's walks alone
set_option linter.unusedVariables false
set_option linter.unusedSimpArgs false
mutual
def spec_SolveIs.j0 : Nat → Bool → List Bool → List Bool → List Bool → List Bool → List Bool → List Bool → Option (Bool)
 | 0, _, _, _, _, _, _, _ => none
 | k + 1, x42, x660000, x660001, x668000, x668001, x676000, x676001 => if x42 = true then (some false) else ((spec_l1Shape.f k x660000 x660001 x676000 x676001).bind fun bt676 => (spec_SolveIs.l0 k (wrap64 ((wrap64 ((wrap64 (2 * bt676.1)) + (wrap64 (2 * bt676.2)))) + (x668000.length : Int))) (wrap64 (bt676.2 * (x668001.length : Int))) 0 x660000 x660001 x668000 x668001 x676000 x676001))
def spec_SolveIs.l0 : Nat → Int → Int → Int → List Bool → List Bool → List Bool → List Bool → List Bool → List Bool → Option (Bool)
 | 0, _, _, _, _, _, _, _, _, _ => none
 | k + 1, x13, x14, x15, x660000, x660001, x668000, x668001, x676000, x676001 => if x15 < (wrap64 (x13 + x14)) then ((spec_l1Has.f x668000 x668001 x15).bind fun t678 => (spec_SolveIs.l1 k x13 x14 x15 t678 0 x660000 x660001 x668000 x668001 x676000 x676001)) else (some true)
def spec_SolveIs.l1 : Nat → Int → Int → Int → Bool → Int → List Bool → List Bool → List Bool → List Bool → List Bool → List Bool → Option (Bool)
 | 0, _, _, _, _, _, _, _, _, _, _, _ => none
 | k + 1, x13, x14, x15, x16, x17, x660000, x660001, x668000, x668001, x676000, x676001 => if x17 ≤ x15 then (if x16 = true then (spec_SolveIs.l1 k x13 x14 x15 true (wrap64 (x17 + 1)) x660000 x660001 x668000 x668001 x676000 x676001) else ((spec_l1Has.f x660000 x660001 x17).bind fun t679 => (if t679 = true then ((spec_l1Has.f x676000 x676001 (wrap64 (x15 - x17))).bind fun t680 => (spec_SolveIs.l1 k x13 x14 x15 t680 (wrap64 (x17 + 1)) x660000 x660001 x668000 x668001 x676000 x676001)) else (spec_SolveIs.l1 k x13 x14 x15 false (wrap64 (x17 + 1)) x660000 x660001 x668000 x668001 x676000 x676001)))) else ((spec_l1Has.f x676000 x676001 x15).bind fun t681 => (if (x16 != t681) = true then (some false) else (spec_SolveIs.l0 k x13 x14 (wrap64 (x15 + 1)) x660000 x660001 x668000 x668001 x676000 x676001)))
end
def spec_SolveIs.f (k : Nat) (a0 : ByteArray) (a1 : ByteArray) (a2 : ByteArray) : Option (Bool) := (spec_l4Small.f k a0).bind fun bt652 => ((spec_l4Small.f k a1).bind fun bt660 => ((spec_l4Small.f k a2).bind fun bt668 => (if bt652.2.2 = true then (if bt660.2.2 = true then (spec_SolveIs.j0 k (!bt668.2.2) bt652.1 bt652.2.1 bt660.1 bt660.2.1 bt668.1 bt668.2.1) else (spec_SolveIs.j0 k true bt652.1 bt652.2.1 bt660.1 bt660.2.1 bt668.1 bt668.2.1)) else (spec_SolveIs.j0 k true bt652.1 bt652.2.1 bt660.1 bt660.2.1 bt668.1 bt668.2.1))))
end Go.Proofs.Ytpkpgdlbgcjloaa.Q

namespace Go.Proofs.Ytpkpgdlbgcjloaa.Q
open Go.RowKit Go.Proofs.YtpkpgdlbgcjloaaW.PrintWords Go.Proofs.YtpkpgdlbgcjloaaW.PrintLast Go.Proofs.YtpkpgdlbgcjloaaW.PrintMore
attribute [local go_sem] max2_int min2_int max_two min_two max_three min_three max_four min_four   -- for this text's walks alone
set_option linter.unusedVariables false
set_option linter.unusedSimpArgs false

end Go.Proofs.Ytpkpgdlbgcjloaa.Q

namespace Go.Proofs.Ytpkpgdlbgcjloaa.Q
open Go.RowKit Go.Proofs.YtpkpgdlbgcjloaaW.PrintWords Go.Proofs.YtpkpgdlbgcjloaaW.PrintLast Go.Proofs.YtpkpgdlbgcjloaaW.PrintMore
attribute [local go_sem] max2_int min2_int max_two min_two max_three min_three max_four min_four   -- for this text's walks alone
set_option linter.unusedVariables false
set_option linter.unusedSimpArgs false

end Go.Proofs.Ytpkpgdlbgcjloaa.Q

namespace Go.Proofs.Ytpkpgdlbgcjloaa.Q
open Go.RowKit Go.Proofs.YtpkpgdlbgcjloaaW.PrintWords Go.Proofs.YtpkpgdlbgcjloaaW.PrintLast Go.Proofs.YtpkpgdlbgcjloaaW.PrintMore
open Go.Proofs.Ytpkpgdlbgcjloaa.Pl (hasB)
set_option linter.unusedVariables false
set_option linter.unusedSimpArgs false
theorem wr {x : Int} (h0 : -9223372036854775808 ≤ x) (h1 : x ≤ 9223372036854775807) : wrap64 x = x := by unfold wrap64; omega
theorem Ev.eq {α : Type} {g f : Nat → Option α} {r : α} (h : g = f) (k : Ev f r) : Ev g r := h ▸ k
theorem Ev.end {α : Type} {g : Nat → Option α} {r : α} (h : ∀ k, g (k + 1) = some r) : Ev g r := ⟨1, fun k hk => by obtain ⟨m, rfl⟩ : ∃ m, k = m + 1 := ⟨k - 1, by omega⟩; exact h m⟩
theorem Ev.const {α : Type} {g : Nat → Option α} {r : α} (h : ∀ k, g k = some r) : Ev g r := ⟨0, fun k _ => h k⟩
theorem Ev.unique {α : Type} {g : Nat → Option α} {r q : α} (h : Ev g r) (k : Ev g q) : r = q := by
  obtain ⟨a, ha⟩ := h
  obtain ⟨b, hb⟩ := k
  have h1 := ha (max a b) (Nat.le_max_left _ _)
  rw [hb (max a b) (Nat.le_max_right _ _)] at h1
  exact (Option.some.inj h1).symm

theorem bt_list (s : ByteArray) (i : Nat) (h : i < s.size) : bt s (i : Int) = ((s.data.toList.getD i 0).toNat : Int) := by
  unfold bt
  rw [dif_pos (by simpa using h)]
  have : s.data.toList.length = s.size := Array.length_toList
  simp [List.getD, h, this]
  rfl
theorem bt_is (s : ByteArray) (i : Nat) (h : i < s.size) (c : UInt8) (n : Int) (hn : n = (c.toNat : Int)) : bt s (i : Int) = n ↔ s.data.toList.getD i 0 = c := by
  rw [bt_list s i h, hn]
  constructor
  · intro h
    exact UInt8.toNat_inj.1 (by exact_mod_cast h)
  · intro h
    rw [h]
theorem drop_getD {α : Type} (l : List α) (i : Nat) (z : α) (h : i < l.length) : l.drop i = l.getD i z :: l.drop (i + 1) := by
  rw [List.drop_eq_getElem_cons h]; simp [List.getD, h]

def okL (l : List UInt8) : Bool := l.all fun c => c == 48 || c == 49
theorem signs_l0 (s : ByteArray) (hs : s.size ≤ 1073741824) (d : Nat) : ∀ (i : Nat) (acc : List Bool), i + d = s.size → acc.length = i →
    Ev (fun k => spec_l1Signs.l0 k s acc i) (if okL (s.data.toList.drop i) then (acc ++ (s.data.toList.drop i).map (· == 49), true) else ([], false)) := by
  have hl : s.data.toList.length = s.size := Array.length_toList
  induction d with
  | zero =>
    intro i acc h1 h2
    refine Ev.end fun k => ?_
    simp only [spec_l1Signs.l0]
    rw [if_neg (by omega), List.drop_of_length_le (by omega)]
    simp [okL]
  | succ d ih =>
    intro i acc h1 h2
    rw [drop_getD _ i 0 (by omega)]
    have hb48 := bt_is s i (by omega) 48 48 rfl
    have hb49 := bt_is s i (by omega) 49 49 rfl
    have hw : wrap64 ((i : Int) + 1) = ((i + 1 : Nat) : Int) := by rw [wr (by omega) (by omega)]; omega
    by_cases c48 : s.data.toList.getD i 0 = 48
    · refine Ev.step (f := fun k => spec_l1Signs.l0 k s (acc ++ [false]) ((i + 1 : Nat) : Int)) (fun k => ?_) ?_
      · simp only [spec_l1Signs.l0]
        have e : bt s (i : Int) = 48 := hb48.2 c48
        rw [if_pos (by omega), if_pos (by omega), if_pos e, if_pos (by omega), hw, e]
        rfl
      · have := ih (i + 1) (acc ++ [false]) (by omega) (by simp [h2])
        rw [c48]
        simpa [okL] using this
    · by_cases c49 : s.data.toList.getD i 0 = 49
      · refine Ev.step (f := fun k => spec_l1Signs.l0 k s (acc ++ [true]) ((i + 1 : Nat) : Int)) (fun k => ?_) ?_
        · simp only [spec_l1Signs.l0]
          have e : bt s (i : Int) = 49 := hb49.2 c49
          rw [if_pos (by omega), if_pos (by omega), if_neg (fun h => c48 (hb48.1 h)), if_pos e, if_pos (by omega), hw]
        · have := ih (i + 1) (acc ++ [true]) (by omega) (by simp [h2])
          rw [c49]
          simpa [okL] using this
      · refine Ev.end fun k => ?_
        simp only [spec_l1Signs.l0]
        rw [if_pos (by omega), if_pos (by omega), if_neg (fun h => c48 (hb48.1 h)), if_neg (fun h => c49 (hb49.1 h))]
        rw [if_neg]
        simp only [okL, List.all_cons, Bool.and_eq_true, Bool.or_eq_true, beq_iff_eq, not_and]
        intro h
        exact absurd h (by simp only [not_or]; exact ⟨c48, c49⟩)
theorem l1Signs_ev (s : ByteArray) (hs : s.size ≤ 1073741824) : Ev (fun k => spec_l1Signs.f k s) (if okL s.data.toList then (s.data.toList.map (· == 49), true) else ([], false)) := by
  have := signs_l0 s hs s.size 0 [] (by omega) rfl
  simpa [spec_l1Signs.f] using this
theorem signs_ev (s : ByteArray) (hs : s.size ≤ 1073741824) : impl_signs.f s = some (if okL s.data.toList then (s.data.toList.map (· == 49), decide ((s.size : Int) ≤ 60)) else ([], false)) := by
  unfold impl_signs.f
  rw [if_pos (by omega)]
  unfold okL impl_signs.ok
  split <;> rfl

theorem index_cases (l : List UInt8) (c : UInt8) : (Lib.indexByte l c = -1 ∧ ∀ i, i < l.length → l.getD i 0 ≠ c) ∨ ∃ i : Nat, i < l.length ∧ Lib.indexByte l c = i ∧ l.getD i 0 = c ∧ ∀ j, j < i → l.getD j 0 ≠ c := by
  induction l with
  | nil => left; exact ⟨rfl, fun i h => absurd h (Nat.not_lt_zero i)⟩
  | cons b l ih =>
    unfold Lib.indexByte
    by_cases hb : b = c
    · right
      exact ⟨0, by simp, by simp [hb], by simp [hb], fun j h => absurd h (Nat.not_lt_zero j)⟩
    · rw [if_neg (by simpa using hb)]
      rcases ih with ⟨h1, h2⟩ | ⟨i, h1, h2, h3, h4⟩
      · left
        refine ⟨by rw [h1]; rfl, fun i hi => ?_⟩
        cases i with
        | zero => simpa using hb
        | succ i => simpa using h2 i (by simpa using hi)
      · right
        refine ⟨i + 1, by simpa using h1, ?_, by simpa using h3, fun j hj => ?_⟩
        · rw [h2, if_neg (by simp only [beq_iff_eq]; omega)]; omega
        · cases j with
          | zero => simpa using hb
          | succ j => simpa using h4 j (by omega)

structure Good (t r : List Bool) : Prop where
  pos : 0 < r.length
  tl : t.length ≤ 60
  rl : r.length ≤ 60
structure IsSet (s : ByteArray) (t r : List Bool) : Prop where
  good : Good t r
  impl : impl_setOf.f s = some (t, r, true)
  spec : Ev (fun k => spec_l1Read.f k s) (t, r, true)
structure NoSet (s : ByteArray) : Prop where
  impl : ∃ a b, impl_setOf.f s = some (a, b, false)
  spec : ∃ a b, Ev (fun k => spec_l1Read.f k s) (a, b, false)

/-- The reader comes to the first bracket, or to the end. -/
theorem read_l0 (s : ByteArray) (hs : s.size ≤ 1073741824) (a b : List Bool) {r : List Bool × List Bool × Bool} (j : Nat) (hj : j ≤ s.size) (hn : ∀ i, i < j → s.data.toList.getD i 0 ≠ 40) (hend : j < s.size → s.data.toList.getD j 0 = 40)
    (h : Ev (fun k => spec_l1Read.j1 k s j a b) r) (d : Nat) : ∀ i, i + d = j → Ev (fun k => spec_l1Read.l0 k s (i : Nat) a b) r := by
  induction d with
  | zero =>
    intro i hi
    obtain rfl : i = j := by omega
    refine Ev.step (fun k => ?_) h
    simp only [spec_l1Read.l0]
    by_cases c : i < s.size
    · rw [if_pos (by omega), if_pos (by omega), if_pos ((bt_is s i c 40 40 rfl).2 (hend c))]
    · rw [if_neg (by omega)]
  | succ d ih =>
    intro i hi
    refine Ev.step (fun k => ?_) (ih (i + 1) (by omega))
    simp only [spec_l1Read.l0]
    have hw : wrap64 ((i : Int) + 1) = ((i + 1 : Nat) : Int) := by rw [wr (by omega) (by omega)]; omega
    rw [if_pos (by omega), if_pos (by omega), if_neg (fun h => hn i (by omega) ((bt_is s i (by omega) 40 40 rfl).1 h)), hw]

theorem size_data (s : ByteArray) : s.data.toList.length = s.size := Array.length_toList
theorem ext_size (s : ByteArray) (a b : Nat) (hb : b ≤ s.size) : (s.extract a b).size = b - a := by simp; omega
theorem ext_list (s : ByteArray) (a b : Nat) : (s.extract a b).data.toList = (s.data.toList.take b).drop a := by
  simp [List.extract_eq_take_drop, List.drop_take]
theorem toList_eq (s : ByteArray) : s.toList = s.data.toList := (Lib.toList_data s).symm ▸ rfl

theorem last_eq {s : ByteArray} {i : Nat} (h : i + 1 < s.size) : ((s.extract (i + 1) s.size).extract ((s.extract (i + 1) s.size).size - 1) (s.extract (i + 1) s.size).size).toList = [s.data.toList.getD (s.size - 1) 0] := by
  rw [toList_eq, ext_list, ext_list, ext_size _ _ _ (Nat.le_refl _)]
  have hl := size_data s
  rw [List.take_of_length_le (l := s.data.toList) (by omega), List.take_of_length_le (by rw [List.length_drop]; omega), List.drop_drop, drop_getD _ _ 0 (by omega), List.drop_of_length_le (by omega)]
  congr 2
  omega
theorem ring_eq {s : ByteArray} {i : Nat} (h : i + 1 < s.size) : (s.extract (i + 1) s.size).extract 0 ((s.extract (i + 1) s.size).size - 1) = s.extract (i + 1) (s.size - 1) := by
  have : ∀ a b : ByteArray, a.data.toList = b.data.toList → a = b := fun a b h => by
    obtain ⟨⟨a⟩⟩ := a; obtain ⟨⟨b⟩⟩ := b; simp at h; simp [h]
  refine this _ _ ?_
  have hl := size_data s
  rw [ext_list, ext_list, ext_list, ext_size _ _ _ (Nat.le_refl _), List.drop_zero, List.take_of_length_le (l := s.data.toList) (by omega), List.drop_take]
  congr 1
  omega

/-- Each text is a set text for both readers, with the same tail and ring, or for none. -/
theorem read_cases (s : ByteArray) (hs : s.size ≤ 1073741824) : NoSet s ∨ ∃ t r, IsSet s t r := by
  have hl := size_data s
  have hsg := fun (x : ByteArray) (hx : x.size ≤ 1073741824) => signs_ev x hx
  rcases index_cases s.data.toList 40 with ⟨h1, h2⟩ | ⟨i, h1, h2, h3, h4⟩
  · left
    refine ⟨?_, ?_⟩
    · have hc : strings_Cut.f s ⟨#[40]⟩ = some (s, ⟨#[]⟩, false) := by
        unfold strings_Cut.f stringslite_Cut.f stringslite_Index.f
        rw [dif_pos (by rfl)]
        show ((some (Lib.indexByte s.data.toList 40)).bind _).bind _ = _
        rw [h1]
        rfl
      have hd : strings_CutSuffix.f ⟨#[]⟩ ⟨#[41]⟩ = some (⟨#[]⟩, false) := by rfl
      refine ⟨(if okL s.data.toList then (s.data.toList.map (· == 49), decide ((s.size : Int) ≤ 60)) else ([], false)).1, [], ?_⟩
      unfold impl_setOf.f
      rw [hc]; simp only [Option.bind_some]
      rw [hd]; simp only [Option.bind_some]
      rw [hsg s hs, hsg ⟨#[]⟩ (by decide)]
      simp only [Option.bind_some]
      rw [if_neg (by simp)]
      rfl
    · refine ⟨[], [false], ?_⟩
      refine read_l0 s hs [] [false] s.size (Nat.le_refl _) (fun i hi => h2 i (by omega)) (fun h => by omega) ?_ s.size 0 (by omega)
      refine Ev.step (f := fun k => spec_l1Read.j2 k s (s.size : Nat) true [] [false]) (fun k => ?_) (Ev.end fun k => ?_)
      · simp only [spec_l1Read.j1]
        rw [if_pos (by rw [wr (by omega) (by omega)]; omega)]
      · simp only [spec_l1Read.j2, if_true]
  · have hi : i < s.size := by omega
    have hc : strings_Cut.f s ⟨#[40]⟩ = some (s.extract 0 i, s.extract (i + 1) s.size, true) := by
      unfold strings_Cut.f stringslite_Cut.f stringslite_Index.f
      rw [dif_pos (by rfl)]
      show ((some (Lib.indexByte s.data.toList 40)).bind _).bind _ = _
      rw [h2]
      simp only [Option.bind_some]
      have hz : ((⟨#[40]⟩ : ByteArray).size : Int) = 1 := rfl
      rw [if_pos (by omega), if_pos (by omega), if_pos (by omega), hz, wr (by omega) (by omega), if_pos (by omega), if_pos (by omega)]
      simp only [Option.bind_some, Int.toNat_natCast]
      rw [show ((i : Int) + 1).toNat = i + 1 from by omega]
    have hz1 : (s.extract (i + 1) s.size).size = s.size - (i + 1) := ext_size _ _ _ (Nat.le_refl _)
    have h41 : ((⟨#[41]⟩ : ByteArray).size : Int) = 1 := rfl
    have hsuf : strings_CutSuffix.f (s.extract (i + 1) s.size) ⟨#[41]⟩ = some (if i + 1 < s.size ∧ s.data.toList.getD (s.size - 1) 0 = 41 then (s.extract (i + 1) (s.size - 1), true) else (s.extract (i + 1) s.size, false)) := by
      unfold strings_CutSuffix.f stringslite_CutSuffix.f stringslite_HasSuffix.f
      rw [h41]
      by_cases c : i + 1 < s.size
      · rw [if_pos (by omega), wr (by omega) (by omega), if_pos (by omega), if_pos (by omega), show (((s.extract (i + 1) s.size).size : Int) - 1).toNat = (s.extract (i + 1) s.size).size - 1 from by omega, last_eq c, ring_eq c]
        simp only [Option.bind_some]
        have hb : ([s.data.toList.getD (s.size - 1) 0] == (⟨#[41]⟩ : ByteArray).toList) = decide (s.data.toList.getD (s.size - 1) 0 = 41) := by
          rw [toList_eq, Bool.eq_iff_iff]; simp
        rw [hb]
        by_cases e : s.data.toList.getD (s.size - 1) 0 = 41
        · rw [decide_eq_true e, if_pos rfl, if_pos (by omega), if_pos (by omega), if_pos ⟨c, e⟩]; rfl
        · rw [decide_eq_false e, if_neg (by simp), if_neg (by intro h; exact e h.2)]; rfl
      · rw [if_neg (by omega)]
        simp only [Option.bind_some, Bool.false_eq_true, if_false]
        rw [if_neg (fun h => c h.1)]
    have hspec : ∀ (r : List Bool × List Bool × Bool), Ev (fun k => spec_l1Read.j1 k s i [] [false]) r → Ev (fun k => spec_l1Read.f k s) r := by
      intro r hr
      exact read_l0 s hs [] [false] i (by omega) (fun j hj => h4 j hj) (fun _ => h3) hr i 0 (by omega)
    have hnull : ∀ x : Bool, x = true → Ev (fun k => spec_l1Read.j2 k s (i : Nat) x [] [false]) (([] : List Bool), [false], false) := by
      intro x hx
      refine Ev.end fun k => ?_
      simp only [spec_l1Read.j2]
      rw [if_pos hx]
    -- for the reader's bracket at the end
    have hj1 : ∀ r, Ev (fun k => spec_l1Read.j2 k s (i : Nat) (decide (s.size ≤ i + 2) || s.data.toList.getD (s.size - 1) 0 != 41) [] [false]) r → Ev (fun k => spec_l1Read.j1 k s i [] [false]) r := by
      intro r hr
      refine Ev.step (fun k => ?_) hr
      simp only [spec_l1Read.j1]
      rw [wr (x := (i : Int) + 2) (by omega) (by omega), wr (x := (s.size : Int) - 1) (by omega) (by omega)]
      by_cases c : s.size ≤ i + 2
      · rw [if_pos (by omega)]; simp [c]
      · rw [if_neg (by omega), if_pos (by omega), if_pos (by omega)]
        rw [show (s.size : Int) - 1 = ((s.size - 1 : Nat) : Int) from by omega]
        congr 1
        simp only [c, decide_false, Bool.false_or]
        have := bt_is s (s.size - 1) (by omega) 41 41 rfl
        rw [Bool.eq_iff_iff]; simp only [bne_iff_ne, ne_eq, this]
    by_cases c : (i + 2 < s.size) ∧ s.data.toList.getD (s.size - 1) 0 = 41
    · obtain ⟨c1, c2⟩ := c
      rw [if_pos ⟨by omega, c2⟩] at hsuf
      have e1 := hsg (s.extract 0 i) (by rw [ext_size _ _ _ (by omega)]; omega)
      have e2 := hsg (s.extract (i + 1) (s.size - 1)) (by rw [ext_size _ _ _ (by omega)]; omega)
      have g1 := l1Signs_ev (s.extract 0 i) (by rw [ext_size _ _ _ (by omega)]; omega)
      have g2 := l1Signs_ev (s.extract (i + 1) (s.size - 1)) (by rw [ext_size _ _ _ (by omega)]; omega)
      have z1 : (s.extract 0 i).size = i := by rw [ext_size _ _ _ (by omega)]; omega
      have z2 : (s.extract (i + 1) (s.size - 1)).size = s.size - i - 2 := by rw [ext_size _ _ _ (by omega)]; omega
      have y1 := size_data (s.extract 0 i)
      have y2 := size_data (s.extract (i + 1) (s.size - 1))
      rw [z1] at e1 y1
      rw [z2] at e2 y2
      have himpl : impl_setOf.f s = (impl_signs.f (s.extract 0 i)).bind fun x => (impl_signs.f (s.extract (i + 1) (s.size - 1))).bind fun y => some (x.1, y.1, x.2 && y.2 && decide ((y.1.length : Int) > 0)) := by
        unfold impl_setOf.f
        rw [hc]; simp only [Option.bind_some]
        rw [hsuf]; simp only [Option.bind_some]
        congr 1; funext x; congr 1; funext y
        cases x.2 <;> cases y.2 <;> simp
      have hj2 : ∀ (x y : List Bool × Bool), Ev (fun k => spec_l1Signs.f k (s.extract 0 i)) x → Ev (fun k => spec_l1Signs.f k (s.extract (i + 1) (s.size - 1))) y →
          Ev (fun k => spec_l1Read.f k s) (if x.2 && y.2 && decide (x.1.length ≤ 60) && decide (y.1.length ≤ 60) then (x.1, y.1, true) else ([], [false], false)) := by
        intro x y hx hy
        refine hspec _ (hj1 _ ?_)
        have : (decide (s.size ≤ i + 2) || s.data.toList.getD (s.size - 1) 0 != 41) = false := by rw [c2]; simp; omega
        rw [this]
        refine Ev.step (f := fun k => (spec_l1Signs.f k (s.extract 0 i)).bind fun bt121 => (spec_l1Signs.f k (s.extract (i + 1) (s.size - 1))).bind fun bt125 => (if bt121.2 = true then (if bt125.2 = true then (if (bt121.1.length : Int) > 60 then (some (([] : List Bool), [false], false)) else (if (bt125.1.length : Int) > 60 then (some ([], [false], false)) else (some (bt121.1, bt125.1, true)))) else (some ([], [false], false))) else (some ([], [false], false)))) (fun k => ?_) ?_
        · simp only [spec_l1Read.j2]
          rw [if_neg (by simp), if_pos (by omega), if_pos (by omega), wr (x := (i : Int) + 1) (by omega) (by omega), wr (x := (s.size : Int) - 1) (by omega) (by omega)]
          simp only [if_pos (show (0 : Int) ≤ (i : Int) + 1 from by omega), if_pos (show (i : Int) + 1 ≤ (s.size : Int) - 1 from by omega), if_pos (show (s.size : Int) - 1 ≤ (s.size : Int) from by omega)]
          rw [Int.toNat_natCast, show ((i : Int) + 1).toNat = i + 1 from by omega, show ((s.size : Int) - 1).toNat = s.size - 1 from by omega]
        · refine Ev.bind hx (Ev.bind hy (Ev.const fun k => ?_))
          obtain ⟨x1, x2⟩ := x
          obtain ⟨y1, y2⟩ := y
          cases x2 <;> cases y2 <;> simp
          by_cases q1 : x1.length ≤ 60
          · by_cases q2 : y1.length ≤ 60
            · rw [if_neg (by omega), if_neg (by omega), if_pos ⟨q1, q2⟩]
            · rw [if_neg (by omega), if_pos (by omega), if_neg (by omega)]
          · rw [if_pos (by omega), if_neg (by omega)]
      have hfin := hj2 _ _ g1 g2
      rw [e1, e2] at himpl
      simp only [Option.bind_some] at himpl
      cases o1 : okL (s.extract 0 i).data.toList with
      | false => left; rw [o1] at himpl hfin; exact ⟨⟨_, _, by rw [himpl]; simp; exact ⟨rfl, rfl⟩⟩, ⟨_, _, by simpa using hfin⟩⟩
      | true =>
        cases o2 : okL (s.extract (i + 1) (s.size - 1)).data.toList with
        | false => left; rw [o1, o2] at himpl hfin; exact ⟨⟨_, _, by rw [himpl]; simp; exact ⟨rfl, rfl⟩⟩, ⟨_, _, by simpa using hfin⟩⟩
        | true =>
          rw [o1, o2] at himpl hfin
          simp only [if_true, List.length_map, Bool.and_self, Bool.true_and] at himpl hfin
          rw [y1, y2] at hfin
          rw [y2] at himpl
          by_cases q : i ≤ 60 ∧ s.size - i - 2 ≤ 60
          · right
            refine ⟨(s.extract 0 i).data.toList.map (· == 49), (s.extract (i + 1) (s.size - 1)).data.toList.map (· == 49), ⟨?_, by rw [List.length_map]; omega, by rw [List.length_map]; omega⟩, himpl.trans ?_, ?_⟩
            · rw [List.length_map]; omega
            · rw [decide_eq_true (show ((i : Nat) : Int) ≤ 60 from by omega), decide_eq_true (show (((s.size - i - 2 : Nat) : Int) ≤ 60) from by omega), decide_eq_true (show (((s.size - i - 2 : Nat) : Int) > 0) from by omega)]
              rfl
            · rw [decide_eq_true q.1, decide_eq_true q.2] at hfin
              exact hfin
          · left
            refine ⟨⟨(s.extract 0 i).data.toList.map (· == 49), (s.extract (i + 1) (s.size - 1)).data.toList.map (· == 49), himpl.trans ?_⟩, ⟨[], [false], ?_⟩⟩
            · congr 3
              by_cases q1 : i ≤ 60
              · rw [decide_eq_false (show ¬ (((s.size - i - 2 : Nat) : Int) ≤ 60) from by omega)]; simp
              · rw [decide_eq_false (show ¬ ((i : Nat) : Int) ≤ 60 from by omega)]; simp
            · by_cases q1 : i ≤ 60
              · rw [decide_eq_false (show ¬ (s.size - i - 2 ≤ 60) from by omega)] at hfin; simpa using hfin
              · rw [decide_eq_false q1] at hfin; simpa using hfin
    · left
      have hcond : (decide (s.size ≤ i + 2) || s.data.toList.getD (s.size - 1) 0 != 41) = true := by
        by_cases q : i + 2 < s.size
        · have : ¬ s.data.toList.getD (s.size - 1) 0 = 41 := fun h => c ⟨q, h⟩
          simp only [Bool.or_eq_true, bne_iff_ne, ne_eq]; exact .inr this
        · simp only [Bool.or_eq_true, decide_eq_true_eq]; exact .inl (by omega)
      refine ⟨?_, ⟨[], [false], hspec _ (hj1 _ (hnull _ hcond))⟩⟩
      have e1 := hsg (s.extract 0 i) (by rw [ext_size _ _ _ (by omega)]; omega)
      unfold impl_setOf.f
      rw [hc]; simp only [Option.bind_some]
      rw [hsuf]; simp only [Option.bind_some]
      by_cases q : i + 1 < s.size ∧ s.data.toList.getD (s.size - 1) 0 = 41
      · rw [if_pos q]
        have hem : (s.extract (i + 1) (s.size - 1)).size = 0 := by
          rw [ext_size _ _ _ (by omega)]
          by_cases q2 : i + 2 < s.size
          · exact absurd ⟨q2, q.2⟩ c
          · omega
        have e2 := hsg (s.extract (i + 1) (s.size - 1)) (by omega)
        have y2 := size_data (s.extract (i + 1) (s.size - 1))
        have hn : (s.extract (i + 1) (s.size - 1)).data.toList = [] := List.length_eq_zero_iff.1 (by omega)
        obtain ⟨p, hp⟩ : ∃ p, impl_signs.f (s.extract 0 i) = some p := ⟨_, e1⟩
        rw [hp, e2, hn]
        simp only [Option.bind_some, okL, List.all_nil, if_true, List.map_nil, List.length_nil]
        refine ⟨p.1, [], ?_⟩
        cases p.2 <;> simp
      · rw [if_neg q, e1]
        simp only [Option.bind_some]
        rw [hsg (s.extract (i + 1) s.size) (by omega)]
        simp only [Option.bind_some]
        exact ⟨_, _, rfl⟩

end Go.Proofs.Ytpkpgdlbgcjloaa.Q

namespace Go.Proofs.Ytpkpgdlbgcjloaa.Q
open Go.RowKit Go.Proofs.YtpkpgdlbgcjloaaW.PrintWords Go.Proofs.YtpkpgdlbgcjloaaW.PrintLast Go.Proofs.YtpkpgdlbgcjloaaW.PrintMore
open Go.Proofs.Ytpkpgdlbgcjloaa.Pl
set_option linter.unusedVariables false
set_option linter.unusedSimpArgs false
theorem rdOf_nat (l : List Bool) (n : Nat) : rdOf false l (n : Int) = l.getD n false := by simp [rdOf]
theorem tmod_nat (a b : Nat) : Int.tmod (a : Int) (b : Int) = ((a % b : Nat) : Int) := by
  rw [Int.tmod_eq_emod_of_nonneg (Int.natCast_nonneg a)]; exact (Int.natCast_emod a b).symm
theorem tdiv_nat (a b : Nat) : Int.tdiv (a : Int) (b : Int) = ((a / b : Nat) : Int) := by
  rw [Int.tdiv_eq_ediv_of_nonneg (Int.natCast_nonneg a)]; exact (Int.natCast_ediv a b).symm
theorem wr1 {n : Nat} (h : n ≤ 4611686018427387904) : wrap64 ((n : Int) + 1) = ((n + 1 : Nat) : Int) := by rw [wr (by omega) (by omega)]; omega

theorem set_has {t r : List Bool} (h : Good t r) (n : Nat) (hn : n ≤ 4611686018427387904) : impl_set_has.f t r n = some (hasB t r n) := by
  have h1 := h.pos
  have h2 := h.tl
  have h3 := h.rl
  unfold impl_set_has.f
  rw [if_neg (by omega)]
  by_cases c : n < t.length
  · rw [if_pos (by omega), if_pos (by omega), rdOf_nat, hasB_lt c]
  · have e : wrap64 ((n : Int) - (t.length : Int)) = ((n - t.length : Nat) : Int) := by rw [wr (by omega) (by omega)]; omega
    have hm := Nat.mod_lt (n - t.length) h1
    rw [if_neg (by omega), if_neg (by omega), e, tmod_nat, if_pos (by omega), if_pos (by omega), rdOf_nat, hasB_ge (by omega)]
theorem l1_has {t r : List Bool} (h : Good t r) (n : Nat) (hn : n ≤ 4611686018427387904) : spec_l1Has.f t r n = some (hasB t r n) := by
  have h1 := h.pos
  have h2 := h.tl
  have h3 := h.rl
  unfold spec_l1Has.f
  by_cases c : n < t.length
  · rw [if_pos (by omega), if_pos (by omega), rdOf_nat, hasB_lt c]
  · have e : wrap64 ((n : Int) - (t.length : Int)) = ((n - t.length : Nat) : Int) := by rw [wr (by omega) (by omega)]; omega
    have hm := Nat.mod_lt (n - t.length) h1
    rw [if_neg (by omega), if_neg (by omega), e, tmod_nat, if_pos (by omega), if_pos (by omega), rdOf_nat, hasB_ge (by omega)]


theorem wrm1 {n : Nat} (h0 : 1 ≤ n) (h : n ≤ 4611686018427387904) : wrap64 ((n : Int) - 1) = ((n - 1 : Nat) : Int) := by rw [wr (by omega) (by omega)]; omega

theorem turns_l0 (r : List Bool) (hr : r.length ≤ 1073741824) (d : Nat) (hd : 1 ≤ d) (hdl : d ≤ r.length) (m : Nat) : ∀ i, i + m = r.length → (∀ j, j < i → r.getD j false = r.getD (j % d) false) →
    ∃ b : Bool, Ev (fun k => impl_turns.l0 k r d (r.length : Int) (i : Nat)) b ∧ (b = true ↔ per r d) := by
  induction m with
  | zero =>
    intro i hi hall
    refine ⟨decide (r.length % d = 0), Ev.end fun k => ?_, ?_⟩
    · simp only [impl_turns.l0]
      rw [if_neg (by omega), if_neg (by omega), ← Int.natCast_emod]
      congr 1
      rw [Bool.eq_iff_iff]
      simp only [beq_iff_eq, decide_eq_true_eq]
      omega
    · rw [decide_eq_true_eq]
      exact ⟨fun h => ⟨h, fun j hj => hall j (by omega)⟩, fun h => h.1⟩
  | succ m ih =>
    intro i hi hall
    have hm := Nat.mod_lt i (show d > 0 by omega)
    by_cases c : r.getD i false = r.getD (i % d) false
    · obtain ⟨b, h1, h2⟩ := ih (i + 1) (by omega) (fun j hj => by
        rcases Nat.lt_or_ge j i with h | h
        · exact hall j h
        · obtain rfl : j = i := by omega
          exact c)
      refine ⟨b, Ev.step (fun k => ?_) h1, h2⟩
      simp only [impl_turns.l0]
      rw [if_pos (by omega), if_pos (by omega), if_pos (by omega), if_neg (by omega), tmod_nat, if_pos (by omega), if_pos (by omega), rdOf_nat, rdOf_nat, wr1 (by omega), if_neg (by rw [c]; simp)]
    · refine ⟨false, Ev.end fun k => ?_, ?_⟩
      · simp only [impl_turns.l0]
        rw [if_pos (by omega), if_pos (by omega), if_pos (by omega), if_neg (by omega), tmod_nat, if_pos (by omega), if_pos (by omega), rdOf_nat, rdOf_nat, if_pos (by simpa using c)]
      · exact ⟨fun h => absurd h (by simp), fun h => absurd (h.2 i (by omega)) c⟩
theorem turns_ev (r : List Bool) (hr : r.length ≤ 1073741824) (d : Nat) (hd : 1 ≤ d) (hdl : d ≤ r.length) : ∃ b : Bool, Ev (fun k => impl_turns.f k r d) b ∧ (b = true ↔ per r d) :=
  turns_l0 r hr d hd hdl r.length 0 (by omega) (fun j hj => absurd hj (Nat.not_lt_zero j))

theorem rot_append {r : List Bool} : ([r.getD (r.length - 1) false] : List Bool) ++ r.take (r.length - 1) = rot r := by
  simp [rot, List.dropLast_eq_take]

/-- The tail made short. -/
theorem tidy_l1 (n : Nat) : ∀ (t r : List Bool), t.length = n → t.length ≤ 1073741824 → 0 < r.length → r.length ≤ 1073741824 → (∀ d, 1 ≤ d → d < r.length → ¬ per r d) →
    ∃ t' r', Ev (fun k => impl_set_tidy.l1 k (r.length : Int) t r) (t', r') ∧ Canon t' r' ∧ (∀ m, hasB t' r' m = hasB t r m) ∧ t'.length ≤ t.length ∧ r'.length ≤ r.length := by
  induction n with
  | zero =>
    intro t r ht _ h1 h2 h3
    refine ⟨t, r, Ev.end fun k => ?_, ⟨h1, h3, fun m hm => by omega⟩, fun m => rfl, Nat.le_refl _, Nat.le_refl _⟩
    simp only [impl_set_tidy.l1]
    rw [if_neg (by omega)]
  | succ n ih =>
    intro t r ht htl h1 h2 h3
    have e1 : wrap64 ((t.length : Int) - 1) = (n : Nat) := by rw [wrm1 (by omega) (by omega)]; omega
    by_cases c : t.getD n false = r.getD (r.length - 1) false
    · have hl : (t.take n).length = n := by rw [List.length_take]; omega
      obtain ⟨t', r', g1, g2, g3, g4, g5⟩ := ih (t.take n) (rot r) hl (by omega) (by rw [rot_length h1]; exact h1) (by rw [rot_length h1]; exact h2) (fun d hd1 hd2 hp => by rw [rot_length h1] at hd2; exact h3 d hd1 hd2 (per_rot h1 hd1 hp))
      rw [rot_length h1] at g1 g5
      refine ⟨t', r', Ev.step (fun k => ?_) g1, g2, fun m => by rw [g3, has_rot ht h1 c], by omega, g5⟩
      simp only [impl_set_tidy.l1]
      rw [if_pos (by omega), e1, if_pos (by omega), if_pos (by omega), wrm1 h1 (by omega), if_pos (by omega), if_pos (by omega), rdOf_nat, rdOf_nat, if_pos (by rw [c]; simp), if_pos (by omega)]
      simp only [Option.bind_some]
      rw [if_pos (by omega)]
      rw [if_pos (by simp; omega), Int.toNat_natCast, Int.toNat_natCast, rot_append]
    · refine ⟨t, r, Ev.end fun k => ?_, ⟨h1, h3, fun m hm => (show n = m by omega) ▸ c⟩, fun m => rfl, Nat.le_refl _, Nat.le_refl _⟩
      simp only [impl_set_tidy.l1]
      rw [if_pos (by omega), e1, if_pos (by omega), if_pos (by omega), wrm1 h1 (by omega), if_pos (by omega), if_pos (by omega), rdOf_nat, rdOf_nat, if_neg (by simpa using c)]

theorem tidy_l0 (t r : List Bool) (ht : t.length ≤ 1073741824) (h1 : 0 < r.length) (h2 : r.length ≤ 1073741824) (m : Nat) : ∀ d, d + m = r.length → 1 ≤ d → (∀ e, 1 ≤ e → e < d → ¬ per r e) →
    ∃ t' r', Ev (fun k => impl_set_tidy.l0 k (d : Nat) t r) (t', r') ∧ Canon t' r' ∧ (∀ m, hasB t' r' m = hasB t r m) ∧ t'.length ≤ t.length ∧ r'.length ≤ r.length := by
  induction m with
  | zero =>
    intro d hd hd1 hno
    obtain ⟨b, hb, hb2⟩ := turns_ev r h2 d hd1 (by omega)
    have hp : per r d := ⟨by rw [show r.length = d from by omega]; exact Nat.mod_self d, fun i hi => by rw [Nat.mod_eq_of_lt (by omega)]⟩
    have hl : (r.take d).length = d := by rw [List.length_take]; omega
    obtain ⟨t', r', g1, g2, g3, g4, g5⟩ := tidy_l1 t.length t (r.take d) rfl ht (by omega) (by omega) (fun e he1 he2 hpe => hno e he1 (by omega) (per_take hd1 he1 (by omega) hp hpe))
    rw [hl] at g1 g5
    refine ⟨t', r', ?_, g2, fun m => by rw [g3, has_take hd1 h1 hp (by omega)], g4, by omega⟩
    refine Ev.step (f := fun k => (impl_turns.f k r d).bind fun x => if x = true then impl_set_tidy.l1 k d t (r.take d) else impl_set_tidy.l0 k (wrap64 (d + 1)) t r) (fun k => ?_) ?_
    · simp only [impl_set_tidy.l0, slices_Clone_bool_bool.f]
      rw [if_pos (by omega)]
      simp only [Option.bind_some]
      rw [if_pos (by omega), if_pos (by omega), Int.toNat_natCast, if_pos (by omega)]
      simp only [Option.bind_some]
    · exact Ev.bind hb (by simp only [if_pos (hb2.2 hp)]; exact g1)
  | succ m ih =>
    intro d hd hd1 hno
    obtain ⟨b, hb, hb2⟩ := turns_ev r h2 d hd1 (by omega)
    have hl : (r.take d).length = d := by rw [List.length_take]; omega
    have key : ∃ t' r', Ev (fun k => if b = true then impl_set_tidy.l1 k d t (r.take d) else impl_set_tidy.l0 k (wrap64 ((d : Nat) + 1)) t r) (t', r') ∧ Canon t' r' ∧ (∀ m, hasB t' r' m = hasB t r m) ∧ t'.length ≤ t.length ∧ r'.length ≤ r.length := by
      by_cases c : b = true
      · have hp := hb2.1 c
        obtain ⟨t', r', g1, g2, g3, g4, g5⟩ := tidy_l1 t.length t (r.take d) rfl ht (by omega) (by omega) (fun e he1 he2 hpe => hno e he1 (by omega) (per_take hd1 he1 (by omega) hp hpe))
        rw [hl] at g1 g5
        refine ⟨t', r', ?_, g2, fun m => by rw [g3, has_take hd1 h1 hp (by omega)], g4, by omega⟩
        simp only [if_pos c]
        exact g1
      · obtain ⟨t', r', g1, g2, g3, g4, g5⟩ := ih (d + 1) (by omega) (by omega) (fun e he1 he2 hpe => by
          rcases Nat.lt_or_ge e d with h | h
          · exact hno e he1 h hpe
          · obtain rfl : e = d := by omega
            exact c (hb2.2 hpe))
        refine ⟨t', r', ?_, g2, g3, g4, g5⟩
        simp only [if_neg c]
        rw [wr1 (by omega)]
        exact g1
    obtain ⟨t', r', g1, g2⟩ := key
    refine ⟨t', r', ?_, g2⟩
    refine Ev.step (f := fun k => (impl_turns.f k r d).bind fun x => if x = true then impl_set_tidy.l1 k d t (r.take d) else impl_set_tidy.l0 k (wrap64 (d + 1)) t r) (fun k => ?_) (Ev.bind hb g1)
    simp only [impl_set_tidy.l0, slices_Clone_bool_bool.f]
    rw [if_pos (by omega)]
    simp only [Option.bind_some]
    rw [if_pos (by omega), if_pos (by omega), Int.toNat_natCast, if_pos (by omega)]
    simp only [Option.bind_some]

theorem tidy_ev {t r : List Bool} (h : Good t r) : ∃ t' r', Ev (fun k => impl_set_tidy.f k t r) (t', r') ∧ Canon t' r' ∧ (∀ m, hasB t' r' m = hasB t r m) ∧ t'.length ≤ t.length ∧ r'.length ≤ r.length := by
  have h1 := h.pos
  have h2 := h.tl
  have h3 := h.rl
  exact tidy_l0 t r (by omega) h1 (by omega) (r.length - 1) 1 (by omega) (by omega) (fun e he1 he2 => by omega)

/-- 'comes again behind d' in the reference's words. -/
theorem per_steps (r : List Bool) (d : Nat) (hd : 1 ≤ d) : (∀ i, d ≤ i → i < r.length → r.getD i false = r.getD (i - d) false) ↔ ∀ i, i < r.length → r.getD i false = r.getD (i % d) false := by
  constructor
  · intro h i
    induction i using Nat.strongRecOn with
    | _ i ih =>
      intro hi
      rcases Nat.lt_or_ge i d with c | c
      · rw [Nat.mod_eq_of_lt c]
      · rw [h i c hi, ih (i - d) (by omega) (by omega), ← Nat.mod_eq_sub_mod c]
  · intro h i h1 h2
    rw [h i h2, h (i - d) (by omega), ← Nat.mod_eq_sub_mod h1]

/-- The reference's inner loop. -/
theorem less_l1 (t r : List Bool) (hr : r.length ≤ 1073741824) (d : Nat) (hd : 1 ≤ d) (hdl : d < r.length) (g : Bool → Nat → Option (List Bool × List Bool))
    (hgt : ∀ k, g true k = (spec_l1Less.f k t (r.take d)).bind fun x => some (x.1, x.2)) (hgf : ∀ k, g false k = spec_l1Less.l0 k (r.length : Int) ((d + 1 : Nat) : Int) t r) (res : List Bool × List Bool) (m : Nat) :
    ∀ i (b : Bool), i + m = r.length → d ≤ i → (b = true ↔ r.length % d = 0 ∧ ∀ j, d ≤ j → j < i → r.getD j false = r.getD (j - d) false) →
      (∀ c : Bool, (c = true ↔ r.length % d = 0 ∧ ∀ j, d ≤ j → j < r.length → r.getD j false = r.getD (j - d) false) → Ev (g c) res) → Ev (fun k => spec_l1Less.l1 k (r.length : Int) (d : Nat) b (i : Nat) t r) res := by
  induction m with
  | zero =>
    intro i b hi hdi hb hres
    obtain rfl : i = r.length := by omega
    refine Ev.step (fun k => ?_) (hres b hb)
    simp only [spec_l1Less.l1]
    rw [if_neg (by omega)]
    cases b with
    | true => rw [if_pos rfl, if_pos (by omega), if_pos (by omega), Int.toNat_natCast, hgt]
    | false => rw [if_neg (by simp), wr1 (by omega), hgf]
  | succ m ih =>
    intro i b hi hdi hb hres
    cases b with
    | true =>
      have h1 := hb.1 rfl
      have e : wrap64 ((i : Int) - (d : Int)) = ((i - d : Nat) : Int) := by rw [wr (by omega) (by omega)]; omega
      refine Ev.step (fun k => ?_) (ih (i + 1) (r.getD i false == r.getD (i - d) false) (by omega) (by omega) ?_ hres)
      · simp only [spec_l1Less.l1, if_true]
        rw [if_pos (by omega), if_pos (by omega), if_pos (by omega), e, if_pos (by omega), if_pos (by omega), rdOf_nat, rdOf_nat, wr1 (by omega)]
      · rw [beq_iff_eq]
        constructor
        · intro c
          refine ⟨h1.1, fun j hj1 hj2 => ?_⟩
          rcases Nat.lt_or_ge j i with h | h
          · exact h1.2 j hj1 h
          · obtain rfl : j = i := by omega
            exact c
        · intro c
          exact c.2 i hdi (by omega)
    | false =>
      refine Ev.step (fun k => ?_) (hres false ⟨fun h => (by cases h), fun h => (hb.2 ⟨h.1, fun j hj1 hj2 => h.2 j hj1 (by omega)⟩)⟩)
      simp only [spec_l1Less.l1]
      rw [if_pos (by omega), if_neg (by simp), wr1 (by omega), hgf]

theorem less_ev (n : Nat) : ∀ t r : List Bool, t.length + r.length = n → t.length ≤ 1073741824 → 0 < r.length → r.length ≤ 1073741824 →
    ∃ t' r', Ev (fun k => spec_l1Less.f k t r) (t', r') ∧ Canon t' r' ∧ (∀ m, hasB t' r' m = hasB t r m) ∧ t'.length ≤ t.length ∧ r'.length ≤ r.length := by
  induction n using Nat.strongRecOn with
  | _ n ih =>
    intro t r hn ht h1 h2
    have loop : ∀ m d, d + m = r.length → 1 ≤ d → (∀ e, 1 ≤ e → e < d → ¬ per r e) → ∃ t' r', Ev (fun k => spec_l1Less.l0 k (r.length : Int) (d : Nat) t r) (t', r') ∧ Canon t' r' ∧ (∀ m, hasB t' r' m = hasB t r m) ∧ t'.length ≤ t.length ∧ r'.length ≤ r.length := by
      intro m
      induction m with
      | zero =>
        intro d hd hd1 hno
        obtain rfl : d = r.length := by omega
        by_cases ct : t.length = 0
        · refine ⟨t, r, Ev.end fun k => ?_, ⟨h1, hno, fun m hm => by omega⟩, fun m => rfl, Nat.le_refl _, Nat.le_refl _⟩
          simp only [spec_l1Less.l0]
          rw [if_neg (by omega), if_neg (by omega)]
        · obtain ⟨q, hq⟩ : ∃ q, t.length = q + 1 := ⟨t.length - 1, by omega⟩
          have e1 : wrap64 ((t.length : Int) - 1) = (q : Nat) := by rw [wrm1 (by omega) (by omega)]; omega
          by_cases c : t.getD q false = r.getD (r.length - 1) false
          · have hl : (t.take q).length = q := by rw [List.length_take]; omega
            obtain ⟨t', r', g1, g2, g3, g4, g5⟩ := ih (q + r.length) (by omega) (t.take q) (rot r) (by rw [rot_length h1, hl]) (by omega) (by rw [rot_length h1]; exact h1) (by rw [rot_length h1]; exact h2)
            rw [rot_length h1] at g5
            refine ⟨t', r', Ev.step (f := fun k => (spec_l1Less.f k (t.take q) (rot r)).bind fun x => some (x.1, x.2)) (fun k => ?_) (Ev.bind g1 (Ev.now _)), g2, fun m => by rw [g3, has_rot hq h1 c], by omega, g5⟩
            simp only [spec_l1Less.l0]
            rw [if_neg (by omega), if_pos (by omega), e1, if_pos (by omega), if_pos (by omega), wrm1 h1 (by omega), if_pos (by omega), if_pos (by omega), rdOf_nat, rdOf_nat, if_pos (by rw [c]; simp)]
            simp only [Option.bind_some]
            rw [if_pos (by omega)]
            rw [if_pos (by simp; omega), if_pos (by omega), Int.toNat_natCast, Int.toNat_natCast, rot_append]
          · refine ⟨t, r, Ev.end fun k => ?_, ⟨h1, hno, fun m hm => (show q = m by omega) ▸ c⟩, fun m => rfl, Nat.le_refl _, Nat.le_refl _⟩
            simp only [spec_l1Less.l0]
            rw [if_neg (by omega), if_pos (by omega), e1, if_pos (by omega), if_pos (by omega), wrm1 h1 (by omega), if_pos (by omega), if_pos (by omega), rdOf_nat, rdOf_nat, if_neg (by simpa using c)]
      | succ m ihm =>
        intro d hd hd1 hno
        have hl : (r.take d).length = d := by rw [List.length_take]; omega
        have hstep : ∀ res, Ev (fun k => spec_l1Less.l1 k (r.length : Int) (d : Nat) (decide (r.length % d = 0)) (d : Nat) t r) res → Ev (fun k => spec_l1Less.l0 k (r.length : Int) (d : Nat) t r) res := by
          intro res hres
          refine Ev.step (fun k => ?_) hres
          simp only [spec_l1Less.l0]
          rw [if_pos (by omega), if_neg (by omega), tmod_nat]
          congr 1
          rw [Bool.eq_iff_iff]
          simp only [beq_iff_eq, decide_eq_true_eq]
          omega
        by_cases hp : per r d
        · obtain ⟨t', r', g1, g2, g3, g4, g5⟩ := ih (t.length + d) (by omega) t (r.take d) (by rw [hl]) ht (by omega) (by omega)
          refine ⟨t', r', hstep _ ?_, g2, fun m => by rw [g3, has_take hd1 h1 hp (by omega)], g4, by omega⟩
          refine less_l1 t r h2 d hd1 (by omega) (fun b k => if b = true then (spec_l1Less.f k t (r.take d)).bind fun x => some (x.1, x.2) else spec_l1Less.l0 k (r.length : Int) ((d + 1 : Nat) : Int) t r) (fun k => if_pos rfl) (fun k => if_neg (by simp)) (t', r') m.succ d (decide (r.length % d = 0)) (by omega) (Nat.le_refl _) ?_ ?_
          · rw [decide_eq_true_eq]
            exact ⟨fun h => ⟨h, fun j a b => by omega⟩, fun h => h.1⟩
          · intro c hc
            have : c = true := hc.2 ⟨hp.1, (per_steps r d hd1).2 hp.2⟩
            subst this
            simp only [if_true]
            exact Ev.bind g1 (Ev.now _)
        · obtain ⟨t', r', g1, g2, g3, g4, g5⟩ := ihm (d + 1) (by omega) (by omega) (fun e he1 he2 hpe => by
            rcases Nat.lt_or_ge e d with h | h
            · exact hno e he1 h hpe
            · obtain rfl : e = d := by omega
              exact hp hpe)
          refine ⟨t', r', hstep _ ?_, g2, g3, g4, g5⟩
          refine less_l1 t r h2 d hd1 (by omega) (fun b k => if b = true then (spec_l1Less.f k t (r.take d)).bind fun x => some (x.1, x.2) else spec_l1Less.l0 k (r.length : Int) ((d + 1 : Nat) : Int) t r) (fun k => if_pos rfl) (fun k => if_neg (by simp)) (t', r') m.succ d (decide (r.length % d = 0)) (by omega) (Nat.le_refl _) ?_ ?_
          · rw [decide_eq_true_eq]
            exact ⟨fun h => ⟨h, fun j a b => by omega⟩, fun h => h.1⟩
          · intro c hc
            have : ¬ c = true := fun h => hp ⟨(hc.1 h).1, (per_steps r d hd1).1 (hc.1 h).2⟩
            simp only [if_neg this]
            exact g1
    obtain ⟨t', r', g1, g2⟩ := loop (r.length - 1) 1 (by omega) (by omega) (fun e he1 he2 => by omega)
    exact ⟨t', r', Ev.step (fun k => by simp only [spec_l1Less.f]; rfl) g1, g2⟩

/-- The tidy form of a set, for both. -/
structure Tidied (t r t' r' : List Bool) : Prop where
  impl : Ev (fun k => impl_set_tidy.f k t r) (t', r')
  spec : Ev (fun k => spec_l1Less.f k t r) (t', r')
  canon : Canon t' r'
  same : ∀ n, hasB t' r' n = hasB t r n
  good : Good t' r'
  tle : t'.length ≤ t.length
  rle : r'.length ≤ r.length
theorem tidied {t r : List Bool} (h : Good t r) : ∃ t' r', Tidied t r t' r' := by
  have h1 := h.pos
  have h2 := h.tl
  have h3 := h.rl
  obtain ⟨t', r', g1, g2, g3, g4, g5⟩ := tidy_ev h
  obtain ⟨t2, r2, k1, k2, k3, k4, k5⟩ := less_ev (t.length + r.length) t r rfl (by omega) h1 (by omega)
  obtain ⟨rfl, rfl⟩ := canon_unique g2 k2 (fun n => by rw [g3, k3])
  exact ⟨t', r', g1, k1, g2, g3, ⟨g2.pos, by omega, by omega⟩, g4, g5⟩


structure IsSmall (s : ByteArray) (t r : List Bool) : Prop where
  orig : ∃ t0 r0, IsSet s t0 r0 ∧ Tidied t0 r0 t r
  good : Good t r
  tl : t.length ≤ 8
  rl : r.length ≤ 8
  impl : Ev (fun k => impl_small.f k s) (t, r, true)
  spec : Ev (fun k => spec_l4Small.f k s) (t, r, true)
structure NoSmall (s : ByteArray) : Prop where
  impl : ∃ a b, Ev (fun k => impl_small.f k s) (a, b, false)
  spec : ∃ a b, Ev (fun k => spec_l4Small.f k s) (a, b, false)
theorem small_cases (s : ByteArray) (hs : s.size ≤ 1073741824) : NoSmall s ∨ ∃ t r, IsSmall s t r := by
  rcases read_cases s hs with h | ⟨t0, r0, h⟩
  · left
    obtain ⟨⟨a, b, ha⟩, ⟨a', b', hb⟩⟩ := h
    refine ⟨⟨[], [], ?_⟩, ⟨a', b', ?_⟩⟩
    · unfold impl_small.f impl_tidied.f
      rw [ha]; simp only [Option.bind_some, Bool.false_eq_true, if_false]
      exact Ev.now _
    · unfold spec_l4Small.f
      refine Ev.bind hb ?_
      simp only [Bool.false_eq_true, if_false]
      exact Ev.now _
  · obtain ⟨t, r, hT⟩ := tidied h.good
    have hi : Ev (fun k => impl_small.f k s) (t, r, decide ((t.length : Int) ≤ 8) && decide ((r.length : Int) ≤ 8)) := by
      unfold impl_small.f impl_tidied.f
      rw [h.impl]; simp only [Option.bind_some, if_true]
      refine Ev.bind (a := (t, r, true)) (Ev.bind hT.impl (Ev.now _)) (Ev.const fun k => ?_)
      rw [if_pos rfl]
      by_cases c : (t.length : Int) ≤ 8
      · rw [if_pos c, decide_eq_true c]; rfl
      · rw [if_neg c, decide_eq_false c]; rfl
    have hs : Ev (fun k => spec_l4Small.f k s) (t, r, decide ((t.length : Int) ≤ 8) && decide ((r.length : Int) ≤ 8)) := by
      unfold spec_l4Small.f
      refine Ev.bind h.spec ?_
      simp only [if_true]
      refine Ev.bind hT.spec (Ev.const fun k => ?_)
      by_cases c : (t.length : Int) ≤ 8
      · rw [if_pos c, decide_eq_true c]; rfl
      · rw [if_neg c, decide_eq_false c]; rfl
    by_cases c : t.length ≤ 8 ∧ r.length ≤ 8
    · right
      rw [decide_eq_true (by omega), decide_eq_true (by omega)] at hi hs
      exact ⟨t, r, ⟨t0, r0, h, hT⟩, hT.good, c.1, c.2, hi, hs⟩
    · left
      have : (decide ((t.length : Int) ≤ 8) && decide ((r.length : Int) ≤ 8)) = false := by
        by_cases c1 : t.length ≤ 8
        · rw [decide_eq_false (show ¬ (r.length : Int) ≤ 8 by omega), Bool.and_false]
        · rw [decide_eq_false (show ¬ (t.length : Int) ≤ 8 by omega), Bool.false_and]
      rw [this] at hi hs
      exact ⟨⟨t, r, hi⟩, ⟨t, r, hs⟩⟩
theorem IsSmall.has {s : ByteArray} {t r : List Bool} (h : IsSmall s t r) : ∃ t0 r0, IsSet s t0 r0 ∧ ∀ n, hasB t0 r0 n = hasB t r n := by
  obtain ⟨t0, r0, h1, h2⟩ := h.orig
  exact ⟨t0, r0, h1, fun n => (h2.same n).symm⟩

theorem getD_set_self (l : List Bool) (i : Nat) (v : Bool) (h : i < l.length) : (l.set i v).getD i false = v := by simp [List.getD, h]
theorem getD_set_ne (l : List Bool) {i j : Nat} (v : Bool) (h : i ≠ j) : (l.set i v).getD j false = l.getD j false := by simp [List.getD, h]
theorem in_eq' (a b c : Int) : impl_in.f a b c = some (decide (b ≤ a ∧ a ≤ c)) := by
  unfold impl_in.f
  by_cases h : b ≤ a
  · rw [if_pos h]; simp [h]
  · rw [if_neg (by omega), decide_eq_false (by omega)]

theorem wrs {a b : Nat} (h : b ≤ a) (ha : a ≤ 4611686018427387904) : wrap64 ((a : Int) - (b : Int)) = ((a - b : Nat) : Int) := by rw [wr (by omega) (by omega)]; omega

theorem star_l1 {t r : List Bool} (h : Good t r) (m : Nat) (hm : m ≤ 1000000) (i : Nat) (hi : i < m) (P : List Bool → Prop)
    (hend : ∀ l, l.length = m → (∀ j, j < i + 1 → l.getD j false = star (hasB t r) j) → ∃ l', Ev (fun k => impl_star.l0 k l m ((i + 1 : Nat) : Int) t r) l' ∧ P l') (d : Nat) :
    ∀ (q : Nat) (l : List Bool), q + d = i + 1 → 1 ≤ q → l.length = m → (∀ j, j < i → l.getD j false = star (hasB t r) j) → (l.getD i false = true → star (hasB t r) i = true) → (l.getD i false = false → 1 ≤ i ∧ ∀ y, 1 ≤ y → y < q → ¬ (hasB t r y = true ∧ star (hasB t r) (i - y) = true)) →
      ∃ l', Ev (fun k => impl_star.l1 k l (i : Nat) (q : Nat) m (i : Nat) t r) l' ∧ P l' := by
  have fin : ∀ l : List Bool, l.length = m → (∀ j, j < i → l.getD j false = star (hasB t r) j) → l.getD i false = star (hasB t r) i → ∃ l', Ev (fun k => impl_star.l0 k l m ((i + 1 : Nat) : Int) t r) l' ∧ P l' := by
    intro l hl ha hb
    refine hend l hl fun j hj => ?_
    rcases Nat.lt_or_ge j i with c | c
    · exact ha j c
    · obtain rfl : j = i := by omega
      exact hb
  induction d with
  | zero =>
    intro q l hq h1 hl ha hb hc
    have hb' : l.getD i false = star (hasB t r) i := by
      cases e : l.getD i false with
      | true => exact (hb e).symm
      | false =>
        obtain ⟨g1, g2⟩ := hc e
        cases es : star (hasB t r) i with
        | false => rfl
        | true =>
          obtain ⟨y, p1, p2, p3, p4⟩ := (star_iff _ g1).1 es
          exact absurd ⟨p3, p4⟩ (g2 y p1 (by omega))
    obtain ⟨l', k1, k2⟩ := fin l hl ha hb'
    refine ⟨l', Ev.step (fun k => ?_) k1, k2⟩
    simp only [impl_star.l1]
    rw [if_neg (by omega), wr1 (by omega)]
  | succ d ih =>
    intro q l hq h1 hl ha hb hc
    cases e : l.getD i false with
    | true =>
      obtain ⟨l', k1, k2⟩ := fin l hl ha (by rw [e, hb e])
      refine ⟨l', Ev.step (fun k => ?_) k1, k2⟩
      simp only [impl_star.l1]
      rw [if_pos (by omega), if_pos (by omega), if_pos (by omega), rdOf_nat, if_pos e, wr1 (by omega)]
    | false =>
      obtain ⟨g1, g2⟩ := hc e
      have nx : ∀ v : Bool, (v = true ↔ hasB t r q = true ∧ star (hasB t r) (i - q) = true) → ∃ l', Ev (fun k => impl_star.l1 k (l.set i v) (i : Nat) ((q + 1 : Nat) : Int) m (i : Nat) t r) l' ∧ P l' := by
        intro v hv
        refine ih (q + 1) (l.set i v) (by omega) (by omega) (by rw [List.length_set, hl]) (fun j hj => by rw [getD_set_ne _ _ (by omega)]; exact ha j hj) ?_ ?_
        · rw [getD_set_self _ _ _ (by omega)]
          intro hv1
          obtain ⟨p1, p2⟩ := hv.1 hv1
          exact (star_iff _ g1).2 ⟨q, h1, by omega, p1, p2⟩
        · rw [getD_set_self _ _ _ (by omega)]
          intro hv1
          refine ⟨g1, fun y a b => ?_⟩
          rcases Nat.lt_or_ge y q with c | c
          · exact g2 y a c
          · obtain rfl : y = q := by omega
            intro hx
            rw [hv.2 hx] at hv1
            cases hv1
      by_cases c : hasB t r q = true
      · obtain ⟨l', k1, k2⟩ := nx (l.getD (i - q) false) (by rw [ha (i - q) (by omega)]; exact ⟨fun h => ⟨c, h⟩, fun h => h.2⟩)
        refine ⟨l', Ev.step (fun k => ?_) k1, k2⟩
        simp only [impl_star.l1]
        rw [if_pos (by omega), if_pos (by omega), if_pos (by omega), rdOf_nat, if_neg (by rw [e]; simp), set_has h q (by omega)]
        simp only [Option.bind_some]
        rw [if_pos c, wrs (by omega) (by omega), if_pos (by omega), if_pos (by omega), rdOf_nat, wr1 (by omega), Int.toNat_natCast]
      · obtain ⟨l', k1, k2⟩ := nx false (by simp [c])
        refine ⟨l', Ev.step (fun k => ?_) k1, k2⟩
        simp only [impl_star.l1]
        rw [if_pos (by omega), if_pos (by omega), if_pos (by omega), rdOf_nat, if_neg (by rw [e]; simp), set_has h q (by omega)]
        simp only [Option.bind_some]
        rw [if_neg c, wr1 (by omega), Int.toNat_natCast]
/-- A list that tells f up to its length. -/
structure Tells (l : List Bool) (f : Nat → Bool) (m : Nat) : Prop where
  len : l.length = m
  get : ∀ j, j < m → l.getD j false = f j
theorem star_l0 {t r : List Bool} (h : Good t r) (m : Nat) (hm : m ≤ 1000000) (d : Nat) : ∀ (i : Nat) (l : List Bool), i + d = m → l.length = m → (∀ j, j < i → l.getD j false = star (hasB t r) j) → ∃ l', Ev (fun k => impl_star.l0 k l m (i : Nat) t r) l' ∧ Tells l' (star (hasB t r)) m := by
  induction d with
  | zero =>
    intro i l hi hl ha
    obtain rfl : i = m := by omega
    refine ⟨l, Ev.end fun k => ?_, hl, ha⟩
    simp only [impl_star.l0]
    rw [if_neg (by omega)]
  | succ d ih =>
    intro i l hi hl ha
    obtain ⟨l', k1, k2⟩ := star_l1 h m hm i (by omega) (fun l' => Tells l' (star (hasB t r)) m) (fun l hl ha => ih (i + 1) l (by omega) hl ha) i 1 (l.set i (decide (i = 0))) (by omega) (by omega) (by rw [List.length_set, hl]) (fun j hj => by rw [getD_set_ne _ _ (by omega)]; exact ha j hj)
      (by rw [getD_set_self _ _ _ (by omega)]; intro h0; have := of_decide_eq_true h0; subst this; exact star_zero _)
      (by rw [getD_set_self _ _ _ (by omega)]; intro h0; have := of_decide_eq_false h0; exact ⟨by omega, fun y a b => by omega⟩)
    refine ⟨l', Ev.step (fun k => ?_) k1, k2⟩
    simp only [impl_star.l0]
    rw [if_pos (by omega), if_pos (by omega), if_pos (by omega), Int.toNat_natCast]
    congr 2
    rw [Bool.eq_iff_iff, beq_iff_eq, decide_eq_true_eq]; omega
theorem star_ev {t r : List Bool} (h : Good t r) (m : Nat) (hm : m ≤ 1000000) : ∃ l, Ev (fun k => impl_star.f k t r m) l ∧ Tells l (star (hasB t r)) m := by
  obtain ⟨l, k1, k2⟩ := star_l0 h m hm m 0 (List.replicate m false) (by omega) (List.length_replicate ..) (fun j hj => absurd hj (Nat.not_lt_zero j))
  refine ⟨l, ?_, k2⟩
  unfold impl_star.f
  simp only [if_pos (show (0 : Int) ≤ (m : Int) by omega), Int.toNat_natCast, if_pos (show m ≤ 281474976710656 by omega), Option.bind_some, List.length_replicate]
  exact k1

theorem solved_l1 {ta ra tb rb : List Bool} (hb : Good tb rb) (m : Nat) (hm : m ≤ 1000000) (st : List Bool) (hst : Tells st (star (hasB ta ra)) m) (i : Nat) (hi : i < m) (P : List Bool → Prop)
    (hend : ∀ l, l.length = m → (∀ j, j < i + 1 → l.getD j false = lst (hasB ta ra) (hasB tb rb) j) → (∀ j, i < j → l.getD j false = false) → ∃ l', Ev (fun k => impl_solved.l0 k st l m ((i + 1 : Nat) : Int) tb rb) l' ∧ P l') (d : Nat) :
    ∀ (q : Nat) (l : List Bool), q + d = i + 1 → l.length = m → (∀ j, j < i → l.getD j false = lst (hasB ta ra) (hasB tb rb) j) → (∀ j, i < j → l.getD j false = false) → (l.getD i false = true → lst (hasB ta ra) (hasB tb rb) i = true) → (l.getD i false = false → ∀ y, y < q → ¬ (star (hasB ta ra) y = true ∧ hasB tb rb (i - y) = true)) →
      ∃ l', Ev (fun k => impl_solved.l1 k st l (i : Nat) (q : Nat) m (i : Nat) tb rb) l' ∧ P l' := by
  have fin : ∀ l : List Bool, l.length = m → (∀ j, j < i → l.getD j false = lst (hasB ta ra) (hasB tb rb) j) → (∀ j, i < j → l.getD j false = false) → l.getD i false = lst (hasB ta ra) (hasB tb rb) i → ∃ l', Ev (fun k => impl_solved.l0 k st l m ((i + 1 : Nat) : Int) tb rb) l' ∧ P l' := by
    intro l hl ha hz hb
    refine hend l hl (fun j hj => ?_) hz
    rcases Nat.lt_or_ge j i with c | c
    · exact ha j c
    · obtain rfl : j = i := by omega
      exact hb
  have sl := hst.len
  induction d with
  | zero =>
    intro q l hq hl ha hz hb1 hc
    have hb' : l.getD i false = lst (hasB ta ra) (hasB tb rb) i := by
      cases e : l.getD i false with
      | true => exact (hb1 e).symm
      | false =>
        have g2 := hc e
        cases es : lst (hasB ta ra) (hasB tb rb) i with
        | false => rfl
        | true =>
          obtain ⟨y, p1, p2, p3⟩ := (sumB_iff _ _ _).1 es
          exact absurd ⟨p2, p3⟩ (g2 y (by omega))
    obtain ⟨l', k1, k2⟩ := fin l hl ha hz hb'
    refine ⟨l', Ev.step (fun k => ?_) k1, k2⟩
    simp only [impl_solved.l1]
    rw [if_neg (by omega), wr1 (by omega)]
  | succ d ih =>
    intro q l hq hl ha hz hb1 hc
    cases e : l.getD i false with
    | true =>
      obtain ⟨l', k1, k2⟩ := fin l hl ha hz (by rw [e, hb1 e])
      refine ⟨l', Ev.step (fun k => ?_) k1, k2⟩
      simp only [impl_solved.l1]
      rw [if_pos (by omega), if_pos (by omega), if_pos (by omega), rdOf_nat, if_pos e, wr1 (by omega)]
    | false =>
      have g2 := hc e
      have nx : ∀ v : Bool, (v = true ↔ star (hasB ta ra) q = true ∧ hasB tb rb (i - q) = true) → ∃ l', Ev (fun k => impl_solved.l1 k st (l.set i v) (i : Nat) ((q + 1 : Nat) : Int) m (i : Nat) tb rb) l' ∧ P l' := by
        intro v hv
        refine ih (q + 1) (l.set i v) (by omega) (by rw [List.length_set, hl]) (fun j hj => by rw [getD_set_ne _ _ (by omega)]; exact ha j hj) (fun j hj => by rw [getD_set_ne _ _ (by omega)]; exact hz j hj) ?_ ?_
        · rw [getD_set_self _ _ _ (by omega)]
          intro hv1
          obtain ⟨p1, p2⟩ := hv.1 hv1
          exact (sumB_iff _ _ _).2 ⟨q, by omega, p1, p2⟩
        · rw [getD_set_self _ _ _ (by omega)]
          intro hv1 y b
          rcases Nat.lt_or_ge y q with c | c
          · exact g2 y c
          · obtain rfl : y = q := by omega
            intro hx
            rw [hv.2 hx] at hv1
            cases hv1
      have hq2 := hst.get q (by omega)
      by_cases c : st.getD q false = true
      · obtain ⟨l', k1, k2⟩ := nx (hasB tb rb (i - q)) ⟨fun h => ⟨by rw [← hq2]; exact c, h⟩, fun h => h.2⟩
        refine ⟨l', Ev.step (fun k => ?_) k1, k2⟩
        simp only [impl_solved.l1]
        rw [if_pos (by omega), if_pos (by omega), if_pos (by omega), rdOf_nat, if_neg (by rw [e]; simp), if_pos (by omega), if_pos (by omega), rdOf_nat, if_pos c, wrs (by omega) (by omega), set_has hb (i - q) (by omega)]
        simp only [Option.bind_some]
        rw [wr1 (by omega), Int.toNat_natCast]
      · obtain ⟨l', k1, k2⟩ := nx false ⟨fun h => absurd h (by simp), fun h => absurd (by rw [hq2]; exact h.1) c⟩
        refine ⟨l', Ev.step (fun k => ?_) k1, k2⟩
        simp only [impl_solved.l1]
        rw [if_pos (by omega), if_pos (by omega), if_pos (by omega), rdOf_nat, if_neg (by rw [e]; simp), if_pos (by omega), if_pos (by omega), rdOf_nat, if_neg c, wr1 (by omega), Int.toNat_natCast]
theorem solved_l0 {ta ra tb rb : List Bool} (hb : Good tb rb) (m : Nat) (hm : m ≤ 1000000) (st : List Bool) (hst : Tells st (star (hasB ta ra)) m) (d : Nat) : ∀ (i : Nat) (l : List Bool), i + d = m → l.length = m → (∀ j, j < i → l.getD j false = lst (hasB ta ra) (hasB tb rb) j) → (∀ j, i ≤ j → l.getD j false = false) → ∃ l', Ev (fun k => impl_solved.l0 k st l m (i : Nat) tb rb) l' ∧ Tells l' (lst (hasB ta ra) (hasB tb rb)) m := by
  induction d with
  | zero =>
    intro i l hi hl ha _
    obtain rfl : i = m := by omega
    refine ⟨l, Ev.end fun k => ?_, hl, ha⟩
    simp only [impl_solved.l0]
    rw [if_neg (by omega)]
  | succ d ih =>
    intro i l hi hl ha hf
    obtain ⟨l', k1, k2⟩ := solved_l1 hb m hm st hst i (by omega) (fun l' => Tells l' (lst (hasB ta ra) (hasB tb rb)) m) (fun l hl ha hz => ih (i + 1) l (by omega) hl ha (fun j hj => hz j (by omega))) (i + 1) 0 l (by omega) hl ha (fun j hj => hf j (by omega)) (fun h => by rw [hf i (Nat.le_refl _)] at h; cases h) (fun _ y hy => by omega)
    refine ⟨l', Ev.step (fun k => ?_) k1, k2⟩
    simp only [impl_solved.l0]
    rw [if_pos (by omega)]
    rfl
theorem solved_ev {ta ra tb rb : List Bool} (ha : Good ta ra) (hb : Good tb rb) (m : Nat) (hm : m ≤ 1000000) : ∃ l, Ev (fun k => impl_solved.f k ta ra tb rb m) l ∧ Tells l (lst (hasB ta ra) (hasB tb rb)) m := by
  obtain ⟨st, s1, s2⟩ := star_ev ha m hm
  obtain ⟨l, k1, k2⟩ := solved_l0 hb m hm st s2 m 0 (List.replicate m false) (by omega) (List.length_replicate ..) (fun j hj => absurd hj (Nat.not_lt_zero j)) (fun j _ => by simp only [List.getD, List.getElem?_replicate]; split <;> rfl)
  refine ⟨l, ?_, k2⟩
  unfold impl_solved.f
  refine Ev.bind s1 ?_
  simp only [if_pos (show (0 : Int) ≤ (m : Int) by omega), Int.toNat_natCast, if_pos (show m ≤ 281474976710656 by omega), Option.bind_some, List.length_replicate]
  exact k1

theorem least_l1 {ta ra tb rb : List Bool} (hA : Good ta ra) (hb : Good tb rb) (m : Nat) (hm : m ≤ 1000000) (i : Nat) (hi : i < m) (P : List Bool → Prop)
    (hend : ∀ l, l.length = m → (∀ j, j < i + 1 → l.getD j false = lst (hasB ta ra) (hasB tb rb) j) → ∃ l', Ev (fun k => spec_l8Least.l0 k m l ((i + 1 : Nat) : Int) ta ra tb rb) l' ∧ P l') (d : Nat) :
    ∀ (q : Nat) (l : List Bool), q + d = i + 1 → 1 ≤ q → l.length = m → (∀ j, j < i → l.getD j false = lst (hasB ta ra) (hasB tb rb) j) → (l.getD i false = true ↔ hasB tb rb i = true ∨ ∃ y, 1 ≤ y ∧ y < q ∧ hasB ta ra y = true ∧ lst (hasB ta ra) (hasB tb rb) (i - y) = true) →
      ∃ l', Ev (fun k => spec_l8Least.l1 k m l (i : Nat) (q : Nat) ta ra tb rb) l' ∧ P l' := by
  induction d with
  | zero =>
    intro q l hq h1 hl ha hb1
    obtain ⟨l', k1, k2⟩ := hend l hl fun j hj => by
      rcases Nat.lt_or_ge j i with c | c
      · exact ha j c
      · obtain rfl : j = i := by omega
        rw [Bool.eq_iff_iff, hb1, lst_iff]
        constructor
        · rintro (h | ⟨y, a, b, c⟩)
          · exact .inl h
          · exact .inr ⟨y, a, by omega, c⟩
        · rintro (h | ⟨y, a, b, c⟩)
          · exact .inl h
          · exact .inr ⟨y, a, by omega, c⟩
    refine ⟨l', Ev.step (fun k => ?_) k1, k2⟩
    simp only [spec_l8Least.l1]
    rw [if_neg (by omega), wr1 (by omega)]
  | succ d ih =>
    intro q l hq h1 hl ha hb1
    have nx : ∀ v : Bool, (v = true ↔ l.getD i false = true ∨ (hasB ta ra q = true ∧ lst (hasB ta ra) (hasB tb rb) (i - q) = true)) → ∃ l', Ev (fun k => spec_l8Least.l1 k m (l.set i v) (i : Nat) ((q + 1 : Nat) : Int) ta ra tb rb) l' ∧ P l' := by
      intro v hv
      refine ih (q + 1) (l.set i v) (by omega) (by omega) (by rw [List.length_set, hl]) (fun j hj => by rw [getD_set_ne _ _ (by omega)]; exact ha j hj) ?_
      rw [getD_set_self _ _ _ (by omega), hv, hb1]
      constructor
      · rintro ((h | ⟨y, a, b, c⟩) | h)
        · exact .inl h
        · exact .inr ⟨y, a, by omega, c⟩
        · exact .inr ⟨q, h1, by omega, h⟩
      · rintro (h | ⟨y, a, b, c⟩)
        · exact .inl (.inl h)
        · rcases Nat.lt_or_ge y q with e | e
          · exact .inl (.inr ⟨y, a, e, c⟩)
          · obtain rfl : y = q := by omega
            exact .inr c
    cases e : l.getD i false with
    | true =>
      obtain ⟨l', k1, k2⟩ := nx true ⟨fun _ => .inl e, fun _ => rfl⟩
      refine ⟨l', Ev.step (fun k => ?_) k1, k2⟩
      simp only [spec_l8Least.l1]
      rw [if_pos (by omega), if_pos (by omega), if_pos (by omega), rdOf_nat, if_pos e, wr1 (by omega), Int.toNat_natCast]
    | false =>
      by_cases c : hasB ta ra q = true
      · obtain ⟨l', k1, k2⟩ := nx (l.getD (i - q) false) (by rw [ha (i - q) (by omega), e]; simp [c])
        refine ⟨l', Ev.step (fun k => ?_) k1, k2⟩
        simp only [spec_l8Least.l1]
        rw [if_pos (by omega), if_pos (by omega), if_pos (by omega), rdOf_nat, if_neg (by rw [e]; simp), l1_has hA q (by omega)]
        simp only [Option.bind_some]
        rw [if_pos c, wrs (by omega) (by omega), if_pos (by omega), if_pos (by omega), rdOf_nat, wr1 (by omega), Int.toNat_natCast]
      · obtain ⟨l', k1, k2⟩ := nx false (by rw [e]; simp [c])
        refine ⟨l', Ev.step (fun k => ?_) k1, k2⟩
        simp only [spec_l8Least.l1]
        rw [if_pos (by omega), if_pos (by omega), if_pos (by omega), rdOf_nat, if_neg (by rw [e]; simp), l1_has hA q (by omega)]
        simp only [Option.bind_some]
        rw [if_neg c, wr1 (by omega), Int.toNat_natCast]
theorem least_l0 {ta ra tb rb : List Bool} (hA : Good ta ra) (hb : Good tb rb) (m : Nat) (hm : m ≤ 1000000) (d : Nat) : ∀ (i : Nat) (l : List Bool), i + d = m → l.length = m → (∀ j, j < i → l.getD j false = lst (hasB ta ra) (hasB tb rb) j) → ∃ l', Ev (fun k => spec_l8Least.l0 k m l (i : Nat) ta ra tb rb) l' ∧ Tells l' (lst (hasB ta ra) (hasB tb rb)) m := by
  induction d with
  | zero =>
    intro i l hi hl ha
    obtain rfl : i = m := by omega
    refine ⟨l, Ev.end fun k => ?_, hl, ha⟩
    simp only [spec_l8Least.l0]
    rw [if_neg (by omega)]
  | succ d ih =>
    intro i l hi hl ha
    obtain ⟨l', k1, k2⟩ := least_l1 hA hb m hm i (by omega) (fun l' => Tells l' (lst (hasB ta ra) (hasB tb rb)) m) (fun l hl ha => ih (i + 1) l (by omega) hl ha) i 1 (l.set i (hasB tb rb i)) (by omega) (by omega) (by rw [List.length_set, hl]) (fun j hj => by rw [getD_set_ne _ _ (by omega)]; exact ha j hj)
      (by rw [getD_set_self _ _ _ (by omega)]
          constructor
          · exact .inl
          · rintro (h | ⟨y, a, b, c⟩)
            · exact h
            · omega)
    refine ⟨l', Ev.step (fun k => ?_) k1, k2⟩
    simp only [spec_l8Least.l0]
    rw [if_pos (by omega), l1_has hb i (by omega)]
    simp only [Option.bind_some]
    rw [if_pos (by omega), if_pos (by omega), Int.toNat_natCast]
    rfl
theorem least_ev {ta ra tb rb : List Bool} (hA : Good ta ra) (hb : Good tb rb) (m : Nat) (hm : m ≤ 1000000) : ∃ l, Ev (fun k => spec_l8Least.f k ta ra tb rb m) l ∧ Tells l (lst (hasB ta ra) (hasB tb rb)) m := by
  obtain ⟨l, k1, k2⟩ := least_l0 hA hb m hm m 0 (List.replicate m false) (by omega) (List.length_replicate ..) (fun j hj => absurd hj (Nat.not_lt_zero j))
  refine ⟨l, ?_, k2⟩
  unfold spec_l8Least.f
  simp only [if_pos (show (0 : Int) ≤ (m : Int) by omega), Int.toNat_natCast, if_pos (show m ≤ 281474976710656 by omega)]
  exact k1

theorem two_yes {s u : ByteArray} {ta ra tb rb : List Bool} (h : IsSmall s ta ra) (h2 : IsSmall u tb rb) : Ev (fun k => impl_two.f k s u) (ta, ra, tb, rb, true) := by
  unfold impl_two.f
  exact Ev.bind h.impl (Ev.bind h2.impl (Ev.now _))
theorem two_no {s u : ByteArray} (hs : NoSmall s ∨ ∃ t r, IsSmall s t r) (hu : NoSmall u ∨ ∃ t r, IsSmall u t r) (h : NoSmall s ∨ NoSmall u) : ∃ a b c d, Ev (fun k => impl_two.f k s u) (a, b, c, d, false) := by
  unfold impl_two.f
  rcases hs with hs | ⟨t, r, hs⟩
  · obtain ⟨a, b, ha⟩ := hs.impl
    rcases hu with hu | ⟨t2, r2, hu⟩
    · obtain ⟨c, d, hc⟩ := hu.impl
      exact ⟨a, b, c, d, Ev.bind ha (Ev.bind hc (Ev.now _))⟩
    · exact ⟨a, b, t2, r2, Ev.bind ha (Ev.bind hu.impl (Ev.now _))⟩
  · rcases h with h | h
    · obtain ⟨a, b, ha⟩ := h.impl
      have := Ev.unique ha hs.impl
      simp at this
    · obtain ⟨c, d, hc⟩ := h.impl
      exact ⟨t, r, c, d, Ev.bind hs.impl (Ev.bind hc (Ev.now _))⟩

theorem l1Divisor_ev (b : Nat) : ∀ a : Nat, Ev (fun k => spec_l1Divisor.f k (a : Int) (b : Int)) ((Nat.gcd a b : Nat) : Int) := by
  induction b using Nat.strongRecOn with
  | _ b ih =>
    intro a
    by_cases c : b = 0
    · subst c
      refine Ev.end fun k => ?_
      simp only [spec_l1Divisor.f, spec_l1Divisor.l0]
      rw [if_neg (by omega), Nat.gcd_zero_right]
    · have h1 := ih (a % b) (Nat.mod_lt _ (by omega)) b
      rw [Nat.gcd_comm b, ← Nat.gcd_rec, Nat.gcd_comm] at h1
      refine Ev.step (fun k => ?_) h1
      simp only [spec_l1Divisor.f, spec_l1Divisor.l0]
      rw [if_pos (by omega), if_neg (by omega), tmod_nat]



theorem mx_nat' (a b : Nat) : mx (a : Int) (b : Int) = ((max a b : Nat) : Int) := by unfold mx; split <;> omega

theorem sums_l0 {ta ra tc rc : List Bool} (ha : Good ta ra) (hc : Good tc rc) (n : Nat) (hn : n ≤ 1000000) (d : Nat) : ∀ q, q + d = n + 1 → (∀ y, y < q → ¬ (hasB ta ra y = true ∧ hasB tc rc (n - y) = true)) → Ev (fun k => impl_sums.l0 k n ((n + 1 : Nat) : Int) (q : Nat) ta ra tc rc) (sumB (hasB ta ra) (hasB tc rc) n) := by
  induction d with
  | zero =>
    intro q hq hno
    have : sumB (hasB ta ra) (hasB tc rc) n = false := by
      cases e : sumB (hasB ta ra) (hasB tc rc) n with
      | false => rfl
      | true =>
        obtain ⟨y, a, b⟩ := (sumB_iff _ _ _).1 e
        exact absurd b (hno y (by omega))
    rw [this]
    refine Ev.end fun k => ?_
    simp only [impl_sums.l0]
    rw [if_neg (by omega)]
  | succ d ih =>
    intro q hq hno
    have hw : wrap64 ((n : Int) - (q : Int)) = ((n - q : Nat) : Int) := wrs (by omega) (by omega)
    have h1 : impl_set_has.f ta ra q = some (hasB ta ra q) := set_has ha q (by omega)
    have h2 : impl_set_has.f tc rc ((n - q : Nat) : Int) = some (hasB tc rc (n - q)) := set_has hc (n - q) (by omega)
    have hlt : (q : Int) < ((n + 1 : Nat) : Int) := by omega
    by_cases c1 : hasB ta ra q = true
    · by_cases c2 : hasB tc rc (n - q) = true
      · have : sumB (hasB ta ra) (hasB tc rc) n = true := (sumB_iff _ _ _).2 ⟨q, by omega, c1, c2⟩
        rw [this]
        refine Ev.end fun k => ?_
        simp only [impl_sums.l0, if_pos hlt, h1, Option.bind_some, if_pos c1, hw, h2, if_pos c2]
      · refine Ev.step (fun k => ?_) (ih (q + 1) (by omega) fun y hy => ?_)
        · simp only [impl_sums.l0, if_pos hlt, h1, Option.bind_some, if_pos c1, hw, h2, if_neg c2, wr1 (show q ≤ 4611686018427387904 by omega)]
        · rcases Nat.lt_or_ge y q with e | e
          · exact hno y e
          · obtain rfl : y = q := by omega
            exact fun h => c2 h.2
    · refine Ev.step (fun k => ?_) (ih (q + 1) (by omega) fun y hy => ?_)
      · simp only [impl_sums.l0, if_pos hlt, h1, Option.bind_some, if_neg c1, wr1 (show q ≤ 4611686018427387904 by omega)]
      · rcases Nat.lt_or_ge y q with e | e
        · exact hno y e
        · obtain rfl : y = q := by omega
          exact fun h => c1 h.1
theorem sums_ev {ta ra tc rc : List Bool} (ha : Good ta ra) (hc : Good tc rc) (n : Nat) (hn : n ≤ 1000000) : Ev (fun k => impl_sums.f k ta ra tc rc n) (sumB (hasB ta ra) (hasB tc rc) n) := by
  unfold impl_sums.f
  rw [wr1 (by omega)]
  exact sums_l0 ha hc n hn (n + 1) 0 (by omega) (fun y hy => absurd hy (Nat.not_lt_zero y))
theorem is_l0 {ta ra tb rb tc rc : List Bool} (ha : Good ta ra) (hb : Good tb rb) (hc : Good tc rc) (d : Nat) : ∀ i, i + d = 400 → ∃ b : Bool, Ev (fun k => impl_SolveIs.l0 k (i : Nat) ta ra tb rb tc rc) b ∧ (b = true ↔ ∀ n, i ≤ n → n < 400 → solves (hasB ta ra) (hasB tb rb) (hasB tc rc) n = true) := by
  induction d with
  | zero =>
    intro i hi
    refine ⟨true, Ev.end fun k => ?_, ?_⟩
    · simp only [impl_SolveIs.l0]
      rw [if_neg (by omega)]
    · exact ⟨fun _ n a b => by omega, fun _ => rfl⟩
  | succ d ih =>
    intro i hi
    obtain ⟨b, k1, k2⟩ := ih (i + 1) (by omega)
    have hlt : (i : Int) < 400 := by omega
    have e1 : impl_set_has.f tc rc (i : Nat) = some (hasB tc rc i) := set_has hc i (by omega)
    have e2 : impl_set_has.f tb rb (i : Nat) = some (hasB tb rb i) := set_has hb i (by omega)
    have ew : wrap64 ((i : Int) + 1) = ((i + 1 : Nat) : Int) := wr1 (by omega)
    have es := sums_ev ha hc i (by omega)
    by_cases hs : solves (hasB ta ra) (hasB tb rb) (hasB tc rc) i = true
    · refine ⟨b, ?_, ?_⟩
      · unfold solves at hs
        rw [beq_iff_eq] at hs
        by_cases c : hasB tb rb i = true
        · rw [c, Bool.true_or] at hs
          refine Ev.step (fun k => ?_) k1
          simp only [impl_SolveIs.l0, if_pos hlt, e1, e2, Option.bind_some, if_pos c, ew]
          rw [if_neg (by rw [hs]; simp)]
        · have c' : hasB tb rb i = false := by simpa using c
          rw [c', Bool.false_or] at hs
          refine Ev.step (f := fun k => (impl_sums.f k ta ra tc rc i).bind fun x => if (hasB tc rc i != x) = true then some false else impl_SolveIs.l0 k ((i + 1 : Nat) : Int) ta ra tb rb tc rc) (fun k => ?_) (Ev.bind es ?_)
          · simp only [impl_SolveIs.l0, if_pos hlt, e1, e2, Option.bind_some, if_neg c, ew]
          · simp only [if_neg (show ¬ (hasB tc rc i != sumB (hasB ta ra) (hasB tc rc) i) = true by rw [hs]; simp)]
            exact k1
      · rw [k2]
        constructor
        · intro h n a b
          rcases Nat.lt_or_ge i n with e | e
          · exact h n (by omega) b
          · obtain rfl : n = i := by omega
            exact hs
        · intro h n a b
          exact h n (by omega) b
    · refine ⟨false, ?_, ⟨fun h => absurd h (by simp), fun h => absurd (h i (Nat.le_refl _) (by omega)) hs⟩⟩
      unfold solves at hs
      rw [beq_iff_eq] at hs
      by_cases c : hasB tb rb i = true
      · rw [c, Bool.true_or] at hs
        refine Ev.end fun k => ?_
        simp only [impl_SolveIs.l0, if_pos hlt, e1, e2, Option.bind_some, if_pos c]
        rw [if_pos (by simpa using hs)]
      · have c' : hasB tb rb i = false := by simpa using c
        rw [c', Bool.false_or] at hs
        refine Ev.step (f := fun k => (impl_sums.f k ta ra tc rc i).bind fun x => if (hasB tc rc i != x) = true then some false else impl_SolveIs.l0 k ((i + 1 : Nat) : Int) ta ra tb rb tc rc) (fun k => ?_) (Ev.bind es ?_)
        · simp only [impl_SolveIs.l0, if_pos hlt, e1, e2, Option.bind_some, if_neg c, ew]
        · simp only [if_pos (show (hasB tc rc i != sumB (hasB ta ra) (hasB tc rc) i) = true by simpa using hs)]
          exact Ev.now _
theorem sis_l1 {ta ra tb rb tc rc : List Bool} (ha : Good ta ra) (hc : Good tc rc) (x y : Nat) (i : Nat) (hi : i ≤ 1000000) (res : Bool) (hend : Ev (fun k => (spec_l1Has.f tc rc i).bind fun t => if ((hasB tb rb i || sumB (hasB ta ra) (hasB tc rc) i) != t) = true then some false else spec_SolveIs.l0 k x y ((i + 1 : Nat) : Int) ta ra tb rb tc rc) res) (d : Nat) :
    ∀ q (due : Bool), q + d = i + 1 → (due = true ↔ hasB tb rb i = true ∨ ∃ z, z < q ∧ hasB ta ra z = true ∧ hasB tc rc (i - z) = true) → Ev (fun k => spec_SolveIs.l1 k x y (i : Nat) due (q : Nat) ta ra tb rb tc rc) res := by
  induction d with
  | zero =>
    intro q due hq hd
    have : due = (hasB tb rb i || sumB (hasB ta ra) (hasB tc rc) i) := by
      rw [Bool.eq_iff_iff, hd, Bool.or_eq_true, sumB_iff]
      constructor
      · rintro (h | ⟨z, a, b⟩)
        · exact .inl h
        · exact .inr ⟨z, by omega, b⟩
      · rintro (h | ⟨z, a, b⟩)
        · exact .inl h
        · exact .inr ⟨z, by omega, b⟩
    rw [← this] at hend
    refine Ev.step (fun k => ?_) hend
    simp only [spec_SolveIs.l1]
    rw [if_neg (by omega), wr1 (by omega)]
  | succ d ih =>
    intro q due hq hd
    have hle : (q : Int) ≤ (i : Int) := by omega
    have hw : wrap64 ((i : Int) - (q : Int)) = ((i - q : Nat) : Int) := wrs (by omega) (by omega)
    have ew : wrap64 ((q : Int) + 1) = ((q + 1 : Nat) : Int) := wr1 (by omega)
    have h1 : spec_l1Has.f ta ra q = some (hasB ta ra q) := l1_has ha q (by omega)
    have h2 : spec_l1Has.f tc rc ((i - q : Nat) : Int) = some (hasB tc rc (i - q)) := l1_has hc (i - q) (by omega)
    have nx : ∀ v : Bool, (v = true ↔ due = true ∨ (hasB ta ra q = true ∧ hasB tc rc (i - q) = true)) → Ev (fun k => spec_SolveIs.l1 k x y (i : Nat) v ((q + 1 : Nat) : Int) ta ra tb rb tc rc) res := by
      intro v hv
      refine ih (q + 1) v (by omega) ?_
      rw [hv, hd]
      constructor
      · rintro ((h | ⟨z, a, b⟩) | h)
        · exact .inl h
        · exact .inr ⟨z, by omega, b⟩
        · exact .inr ⟨q, by omega, h⟩
      · rintro (h | ⟨z, a, b⟩)
        · exact .inl (.inl h)
        · rcases Nat.lt_or_ge z q with e | e
          · exact .inl (.inr ⟨z, e, b⟩)
          · obtain rfl : z = q := by omega
            exact .inr b
    cases hdv : due with
    | true =>
      refine Ev.step (fun k => ?_) (nx true (by rw [hdv]; simp))
      simp only [spec_SolveIs.l1, if_pos hle, if_true, ew]
    | false =>
      by_cases c : hasB ta ra q = true
      · refine Ev.step (fun k => ?_) (nx (hasB tc rc (i - q)) (by rw [hdv]; simp [c]))
        simp only [spec_SolveIs.l1, if_pos hle, Bool.false_eq_true, if_false, h1, Option.bind_some, if_pos c, hw, h2, ew]
      · refine Ev.step (fun k => ?_) (nx false (by rw [hdv]; simp [c]))
        simp only [spec_SolveIs.l1, if_pos hle, Bool.false_eq_true, if_false, h1, Option.bind_some, if_neg c, ew]
theorem sis_l0 {ta ra tb rb tc rc : List Bool} (ha : Good ta ra) (hb : Good tb rb) (hc : Good tc rc) (x y : Nat) (hxy : x + y ≤ 100000) (d : Nat) : ∀ i, i + d = x + y → ∃ b : Bool, Ev (fun k => spec_SolveIs.l0 k x y (i : Nat) ta ra tb rb tc rc) b ∧ (b = true ↔ ∀ n, i ≤ n → n < x + y → solves (hasB ta ra) (hasB tb rb) (hasB tc rc) n = true) := by
  have exy : wrap64 ((x : Int) + (y : Int)) = ((x + y : Nat) : Int) := by rw [wr (by omega) (by omega)]; omega
  induction d with
  | zero =>
    intro i hi
    refine ⟨true, Ev.end fun k => ?_, ?_⟩
    · simp only [spec_SolveIs.l0, exy]
      rw [if_neg (by omega)]
    · exact ⟨fun _ n a b => by omega, fun _ => rfl⟩
  | succ d ih =>
    intro i hi
    obtain ⟨b, k1, k2⟩ := ih (i + 1) (by omega)
    have hlt : (i : Int) < ((x + y : Nat) : Int) := by omega
    have e1 : spec_l1Has.f tb rb (i : Nat) = some (hasB tb rb i) := l1_has hb i (by omega)
    have e2 : spec_l1Has.f tc rc (i : Nat) = some (hasB tc rc i) := l1_has hc i (by omega)
    have st : ∀ res, Ev (fun k => if ((hasB tb rb i || sumB (hasB ta ra) (hasB tc rc) i) != hasB tc rc i) = true then some false else spec_SolveIs.l0 k x y ((i + 1 : Nat) : Int) ta ra tb rb tc rc) res → Ev (fun k => spec_SolveIs.l0 k x y (i : Nat) ta ra tb rb tc rc) res := by
      intro res hres
      refine Ev.step (fun k => ?_) (sis_l1 (tb := tb) (rb := rb) ha hc x y i (by omega) res ?_ (i + 1) 0 (hasB tb rb i) (by omega) ?_)
      · simp only [spec_SolveIs.l0, exy, if_pos hlt, e1, Option.bind_some]; rfl
      · simp only [e2, Option.bind_some]; exact hres
      · constructor
        · exact .inl
        · rintro (h | ⟨z, a, _⟩)
          · exact h
          · omega
    by_cases hs : solves (hasB ta ra) (hasB tb rb) (hasB tc rc) i = true
    · refine ⟨b, st b ?_, ?_⟩
      · unfold solves at hs
        rw [beq_iff_eq] at hs
        simp only [if_neg (show ¬ ((hasB tb rb i || sumB (hasB ta ra) (hasB tc rc) i) != hasB tc rc i) = true by rw [← hs]; simp)]
        exact k1
      · rw [k2]
        constructor
        · intro h n a b
          rcases Nat.lt_or_ge i n with e | e
          · exact h n (by omega) b
          · obtain rfl : n = i := by omega
            exact hs
        · intro h n a b
          exact h n (by omega) b
    · refine ⟨false, st false ?_, ⟨fun h => absurd h (by simp), fun h => absurd (h i (Nat.le_refl _) (by omega)) hs⟩⟩
      unfold solves at hs
      rw [beq_iff_eq] at hs
      simp only [if_pos (show ((hasB tb rb i || sumB (hasB ta ra) (hasB tc rc) i) != hasB tc rc i) = true by rw [bne_iff_ne]; exact fun h => hs h.symm)]
      exact Ev.now _
theorem lcm_eq (p q : Nat) : p / Nat.gcd p q * q = Nat.lcm p q := by
  unfold Nat.lcm
  rw [Nat.mul_comm p q, Nat.mul_div_assoc _ (Nat.gcd_dvd_left p q), Nat.mul_comm]
theorem shape_ev {ta ra tc rc : List Bool} (ha : Good ta ra) (hc : Good tc rc) : Ev (fun k => spec_l1Shape.f k ta ra tc rc) (((max ta.length tc.length : Nat) : Int), ((Nat.lcm ra.length rc.length : Nat) : Int)) := by
  have hg : 0 < Nat.gcd ra.length rc.length := Nat.gcd_pos_of_pos_left _ ha.pos
  have hd := Nat.div_le_self ra.length (Nat.gcd ra.length rc.length)
  have h1 := ha.rl
  have h2 := hc.rl
  have hm : ra.length / Nat.gcd ra.length rc.length * rc.length ≤ 60 * 60 := Nat.mul_le_mul (by omega) h2
  have he := lcm_eq ra.length rc.length
  unfold spec_l1Shape.f
  refine Ev.bind (l1Divisor_ev rc.length ra.length) (Ev.const fun k => ?_)
  rw [if_neg (by omega), mx_nat', ← Int.natCast_ediv]
  generalize Nat.gcd ra.length rc.length = g at *
  generalize ra.length / g = p at *
  rw [wr (x := (p : Int)) (by omega) (by omega), ← Int.natCast_mul, he, wr (by omega) (by omega)]
theorem solveIs_yes {s u v : ByteArray} {ta ra tb rb tc rc : List Bool} (h : IsSmall s ta ra) (h2 : IsSmall u tb rb) (h3 : IsSmall v tc rc) : ∃ b : Bool, Ev (fun k => impl_SolveIs.f k s u v) b ∧ Ev (fun k => spec_SolveIs.f k s u v) b ∧ (b = true ↔ ∀ n, solves (hasB ta ra) (hasB tb rb) (hasB tc rc) n = true) := by
  obtain ⟨b1, k1, k2⟩ := is_l0 h.good h2.good h3.good 400 0 (by omega)
  have hL := lcm_small _ h.rl _ h3.rl h.good.pos h3.good.pos
  have htl := h.tl
  have htl3 := h3.tl
  have htl2 := h2.tl
  have hrl2 := h2.rl
  have hLr : Nat.lcm ra.length rc.length * rb.length ≤ 56 * 8 := Nat.mul_le_mul hL hrl2
  obtain ⟨b2, j1, j2⟩ := sis_l0 h.good h2.good h3.good (2 * max ta.length tc.length + 2 * Nat.lcm ra.length rc.length + tb.length) (Nat.lcm ra.length rc.length * rb.length) (by omega) _ 0 (Nat.zero_add _)
  have hfar := solves_far (ta := ta) (tb := tb) (tc := tc) h.good.pos h2.good.pos h3.good.pos h.rl h2.rl h3.rl h.tl h2.tl h3.tl
  have e : b1 = b2 := by
    rw [Bool.eq_iff_iff, k2, j2]
    constructor
    · intro hx n _ hn
      exact hfar.1 (fun n hn => hx n (Nat.zero_le _) hn) n hn
    · intro hx n _ hn
      exact hfar.2 (fun n hn => hx n (Nat.zero_le _) hn) n hn
  subst e
  refine ⟨b1, ?_, ?_, ?_⟩
  · unfold impl_SolveIs.f
    refine Ev.bind (two_yes h h2) (Ev.bind h3.impl ?_)
    simp only [if_true]
    exact Ev.step (fun k => by simp only [impl_SolveIs.j0, Bool.not_true, Bool.false_eq_true, if_false]; rfl) k1
  · unfold spec_SolveIs.f
    refine Ev.bind h.spec (Ev.bind h2.spec (Ev.bind h3.spec ?_))
    simp only [if_true]
    refine Ev.step (f := fun k => (spec_l1Shape.f k ta ra tc rc).bind fun x => spec_SolveIs.l0 k (wrap64 ((wrap64 ((wrap64 (2 * x.1)) + (wrap64 (2 * x.2)))) + (tb.length : Int))) (wrap64 (x.2 * (rb.length : Int))) 0 ta ra tb rb tc rc) (fun k => by simp only [spec_SolveIs.j0, Bool.not_true, Bool.false_eq_true, if_false]) ?_
    refine Ev.bind (shape_ev h.good h3.good) ?_
    have hT : max ta.length tc.length ≤ 8 := by omega
    generalize Nat.lcm ra.length rc.length = L at *
    generalize max ta.length tc.length = T at *
    have e1 : wrap64 ((wrap64 ((wrap64 (2 * (T : Int))) + (wrap64 (2 * (L : Int))))) + (tb.length : Int)) = ((2 * T + 2 * L + tb.length : Nat) : Int) := by
      rw [wr (x := 2 * (T : Int)) (by omega) (by omega), wr (x := 2 * (L : Int)) (by omega) (by omega), wr (x := 2 * (T : Int) + 2 * (L : Int)) (by omega) (by omega), wr (by omega) (by omega)]; omega
    have e2 : wrap64 ((L : Int) * (rb.length : Int)) = ((L * rb.length : Nat) : Int) := by
      rw [← Int.natCast_mul, wr (by omega) (by omega)]
    simp only [e1, e2]
    exact j1
  · rw [k2]
    constructor
    · intro hx n
      have hL2 := lcm_small3 _ h.rl _ h3.rl _ h2.rl h.good.pos h3.good.pos h2.good.pos
      refine all_of_far _ 72 (Nat.lcm (Nat.lcm ra.length rc.length) rb.length) 400 (lcm_pos (lcm_pos h.good.pos h3.good.pos) h2.good.pos) (fun n hn => ?_) (by omega) (fun n hn => hx n (Nat.zero_le _) hn) n
      exact solves_period (Nat.lcm ra.length rc.length) _ (lcm_mod_left _ _) (lcm_mod_right _ _) (lcm_mod_left _ _) (lcm_mod_right _ _) (by omega) (by omega)
    · exact fun hx n _ _ => hx n
theorem solveIs_no {s u v : ByteArray} (hs : NoSmall s ∨ ∃ t r, IsSmall s t r) (hu : NoSmall u ∨ ∃ t r, IsSmall u t r) (hv : NoSmall v ∨ ∃ t r, IsSmall v t r) (h : NoSmall s ∨ NoSmall u ∨ NoSmall v) : Ev (fun k => impl_SolveIs.f k s u v) false ∧ Ev (fun k => spec_SolveIs.f k s u v) false := by
  have i0 : ∀ a b c d e f, Ev (fun k => impl_SolveIs.j0 k true a b c d e f) false := fun a b c d e f => Ev.end fun k => by simp only [impl_SolveIs.j0, if_true]
  have s0 : ∀ a b c d e f, Ev (fun k => spec_SolveIs.j0 k true a b c d e f) false := fun a b c d e f => Ev.end fun k => by simp only [spec_SolveIs.j0, if_true]
  have ex : ∀ w : ByteArray, (NoSmall w ∨ ∃ t r, IsSmall w t r) → ∃ a b ok, Ev (fun k => impl_small.f k w) (a, b, ok) ∧ (ok = true → ¬ NoSmall w) := by
    rintro w (hw | ⟨t, r, hw⟩)
    · obtain ⟨a, b, h⟩ := hw.impl
      exact ⟨a, b, false, h, fun h => by cases h⟩
    · refine ⟨t, r, true, hw.impl, fun _ hn => ?_⟩
      obtain ⟨a, b, h⟩ := hn.impl
      have := Ev.unique h hw.impl
      simp at this
  have exs : ∀ w : ByteArray, (NoSmall w ∨ ∃ t r, IsSmall w t r) → ∃ a b ok, Ev (fun k => spec_l4Small.f k w) (a, b, ok) ∧ (ok = true → ¬ NoSmall w) := by
    rintro w (hw | ⟨t, r, hw⟩)
    · obtain ⟨a, b, h⟩ := hw.spec
      exact ⟨a, b, false, h, fun h => by cases h⟩
    · refine ⟨t, r, true, hw.spec, fun _ hn => ?_⟩
      obtain ⟨a, b, h⟩ := hn.spec
      have := Ev.unique h hw.spec
      simp at this
  constructor
  · obtain ⟨a, b, o1, g1, n1⟩ := ex s hs
    obtain ⟨c, d, o2, g2, n2⟩ := ex u hu
    obtain ⟨e, f, o3, g3, n3⟩ := ex v hv
    unfold impl_SolveIs.f impl_two.f
    have g12 : Ev (fun k => (impl_small.f k s).bind fun bt297 => ((impl_small.f k u).bind fun bt305 => (if bt297.2.2 = true then (some (bt297.1, bt297.2.1, bt305.1, bt305.2.1, bt305.2.2)) else (some (bt297.1, bt297.2.1, bt305.1, bt305.2.1, false))))) (a, b, c, d, o1 && o2) := by
      refine Ev.bind g1 (Ev.bind g2 (Ev.const fun k => ?_))
      cases o1 <;> rfl
    refine Ev.bind g12 (Ev.bind g3 ?_)
    cases o1 with
    | false => simp only [Bool.false_and, Bool.false_eq_true, if_false]; exact i0 _ _ _ _ _ _
    | true =>
      cases o2 with
      | false => simp only [Bool.and_false, Bool.false_eq_true, if_false]; exact i0 _ _ _ _ _ _
      | true =>
        cases o3 with
        | false => simp only [Bool.and_self, if_true, Bool.not_false]; exact i0 _ _ _ _ _ _
        | true => exact absurd h (fun h => by rcases h with h | h | h; exact n1 rfl h; exact n2 rfl h; exact n3 rfl h)
  · obtain ⟨a, b, o1, g1, n1⟩ := exs s hs
    obtain ⟨c, d, o2, g2, n2⟩ := exs u hu
    obtain ⟨e, f, o3, g3, n3⟩ := exs v hv
    unfold spec_SolveIs.f
    refine Ev.bind g1 (Ev.bind g2 (Ev.bind g3 ?_))
    cases o1 with
    | false => simp only [Bool.false_eq_true, if_false]; exact s0 _ _ _ _ _ _
    | true =>
      cases o2 with
      | false => simp only [Bool.false_eq_true, if_false, if_true]; exact s0 _ _ _ _ _ _
      | true =>
        cases o3 with
        | false => simp only [if_true, Bool.not_false]; exact s0 _ _ _ _ _ _
        | true => exact absurd h (fun h => by rcases h with h | h | h; exact n1 rfl h; exact n2 rfl h; exact n3 rfl h)

end Go.Proofs.Ytpkpgdlbgcjloaa.Q

namespace Go.Proofs.Ytpkpgdlbgcjloaa.Q
open Go.RowKit Go.Proofs.YtpkpgdlbgcjloaaW.PrintWords Go.Proofs.YtpkpgdlbgcjloaaW.PrintLast Go.Proofs.YtpkpgdlbgcjloaaW.PrintMore
open Go.Proofs.Ytpkpgdlbgcjloaa.Pl (hasB)
set_option linter.unusedVariables false
set_option linter.unusedSimpArgs false
theorem read_yes (s : ByteArray) (hs : s.size ≤ 1073741824) (i : Nat) (h1 : i < s.data.toList.length) (h2 : Lib.indexByte s.data.toList 40 = i) (h3 : s.data.toList.getD i 0 = 40) (h4 : ∀ j, j < i → s.data.toList.getD j 0 ≠ 40)
    (c1 : i + 2 < s.size) (c2 : s.data.toList.getD (s.size - 1) 0 = 41) (o1 : okL (s.extract 0 i).data.toList = true) (o2 : okL (s.extract (i + 1) (s.size - 1)).data.toList = true) (q : i ≤ 60 ∧ s.size - i - 2 ≤ 60) :
    IsSet s ((s.extract 0 i).data.toList.map (· == 49)) ((s.extract (i + 1) (s.size - 1)).data.toList.map (· == 49)) := by
  have hl := size_data s
  have hsg := fun (x : ByteArray) (hx : x.size ≤ 1073741824) => signs_ev x hx
  have hi : i < s.size := by omega
  have hc : strings_Cut.f s ⟨#[40]⟩ = some (s.extract 0 i, s.extract (i + 1) s.size, true) := by
    unfold strings_Cut.f stringslite_Cut.f stringslite_Index.f
    rw [dif_pos (by rfl)]
    show ((some (Lib.indexByte s.data.toList 40)).bind _).bind _ = _
    rw [h2]
    simp only [Option.bind_some]
    have hz : ((⟨#[40]⟩ : ByteArray).size : Int) = 1 := rfl
    rw [if_pos (by omega), if_pos (by omega), if_pos (by omega), hz, wr (by omega) (by omega), if_pos (by omega), if_pos (by omega)]
    simp only [Option.bind_some, Int.toNat_natCast]
    rw [show ((i : Int) + 1).toNat = i + 1 from by omega]
  have hz1 : (s.extract (i + 1) s.size).size = s.size - (i + 1) := ext_size _ _ _ (Nat.le_refl _)
  have h41 : ((⟨#[41]⟩ : ByteArray).size : Int) = 1 := rfl
  have hsuf : strings_CutSuffix.f (s.extract (i + 1) s.size) ⟨#[41]⟩ = some (if i + 1 < s.size ∧ s.data.toList.getD (s.size - 1) 0 = 41 then (s.extract (i + 1) (s.size - 1), true) else (s.extract (i + 1) s.size, false)) := by
    unfold strings_CutSuffix.f stringslite_CutSuffix.f stringslite_HasSuffix.f
    rw [h41]
    by_cases c : i + 1 < s.size
    · rw [if_pos (by omega), wr (by omega) (by omega), if_pos (by omega), if_pos (by omega), show (((s.extract (i + 1) s.size).size : Int) - 1).toNat = (s.extract (i + 1) s.size).size - 1 from by omega, last_eq c, ring_eq c]
      simp only [Option.bind_some]
      have hb : ([s.data.toList.getD (s.size - 1) 0] == (⟨#[41]⟩ : ByteArray).toList) = decide (s.data.toList.getD (s.size - 1) 0 = 41) := by
        rw [toList_eq, Bool.eq_iff_iff]; simp
      rw [hb]
      by_cases e : s.data.toList.getD (s.size - 1) 0 = 41
      · rw [decide_eq_true e, if_pos rfl, if_pos (by omega), if_pos (by omega), if_pos ⟨c, e⟩]; rfl
      · rw [decide_eq_false e, if_neg (by simp), if_neg (by intro h; exact e h.2)]; rfl
    · rw [if_neg (by omega)]
      simp only [Option.bind_some, Bool.false_eq_true, if_false]
      rw [if_neg (fun h => c h.1)]
  have hspec : ∀ (r : List Bool × List Bool × Bool), Ev (fun k => spec_l1Read.j1 k s i [] [false]) r → Ev (fun k => spec_l1Read.f k s) r := by
    intro r hr
    exact read_l0 s hs [] [false] i (by omega) (fun j hj => h4 j hj) (fun _ => h3) hr i 0 (by omega)
  have hnull : ∀ x : Bool, x = true → Ev (fun k => spec_l1Read.j2 k s (i : Nat) x [] [false]) (([] : List Bool), [false], false) := by
    intro x hx
    refine Ev.end fun k => ?_
    simp only [spec_l1Read.j2]
    rw [if_pos hx]
  -- for the reader's bracket at the end
  have hj1 : ∀ r, Ev (fun k => spec_l1Read.j2 k s (i : Nat) (decide (s.size ≤ i + 2) || s.data.toList.getD (s.size - 1) 0 != 41) [] [false]) r → Ev (fun k => spec_l1Read.j1 k s i [] [false]) r := by
    intro r hr
    refine Ev.step (fun k => ?_) hr
    simp only [spec_l1Read.j1]
    rw [wr (x := (i : Int) + 2) (by omega) (by omega), wr (x := (s.size : Int) - 1) (by omega) (by omega)]
    by_cases c : s.size ≤ i + 2
    · rw [if_pos (by omega)]; simp [c]
    · rw [if_neg (by omega), if_pos (by omega), if_pos (by omega)]
      rw [show (s.size : Int) - 1 = ((s.size - 1 : Nat) : Int) from by omega]
      congr 1
      simp only [c, decide_false, Bool.false_or]
      have := bt_is s (s.size - 1) (by omega) 41 41 rfl
      rw [Bool.eq_iff_iff]; simp only [bne_iff_ne, ne_eq, this]
  rw [if_pos ⟨by omega, c2⟩] at hsuf
  have e1 := hsg (s.extract 0 i) (by rw [ext_size _ _ _ (by omega)]; omega)
  have e2 := hsg (s.extract (i + 1) (s.size - 1)) (by rw [ext_size _ _ _ (by omega)]; omega)
  have g1 := l1Signs_ev (s.extract 0 i) (by rw [ext_size _ _ _ (by omega)]; omega)
  have g2 := l1Signs_ev (s.extract (i + 1) (s.size - 1)) (by rw [ext_size _ _ _ (by omega)]; omega)
  have z1 : (s.extract 0 i).size = i := by rw [ext_size _ _ _ (by omega)]; omega
  have z2 : (s.extract (i + 1) (s.size - 1)).size = s.size - i - 2 := by rw [ext_size _ _ _ (by omega)]; omega
  have y1 := size_data (s.extract 0 i)
  have y2 := size_data (s.extract (i + 1) (s.size - 1))
  rw [z1] at e1 y1
  rw [z2] at e2 y2
  have himpl : impl_setOf.f s = (impl_signs.f (s.extract 0 i)).bind fun x => (impl_signs.f (s.extract (i + 1) (s.size - 1))).bind fun y => some (x.1, y.1, x.2 && y.2 && decide ((y.1.length : Int) > 0)) := by
    unfold impl_setOf.f
    rw [hc]; simp only [Option.bind_some]
    rw [hsuf]; simp only [Option.bind_some]
    congr 1; funext x; congr 1; funext y
    cases x.2 <;> cases y.2 <;> simp
  have hj2 : ∀ (x y : List Bool × Bool), Ev (fun k => spec_l1Signs.f k (s.extract 0 i)) x → Ev (fun k => spec_l1Signs.f k (s.extract (i + 1) (s.size - 1))) y →
      Ev (fun k => spec_l1Read.f k s) (if x.2 && y.2 && decide (x.1.length ≤ 60) && decide (y.1.length ≤ 60) then (x.1, y.1, true) else ([], [false], false)) := by
    intro x y hx hy
    refine hspec _ (hj1 _ ?_)
    have : (decide (s.size ≤ i + 2) || s.data.toList.getD (s.size - 1) 0 != 41) = false := by rw [c2]; simp; omega
    rw [this]
    refine Ev.step (f := fun k => (spec_l1Signs.f k (s.extract 0 i)).bind fun bt121 => (spec_l1Signs.f k (s.extract (i + 1) (s.size - 1))).bind fun bt125 => (if bt121.2 = true then (if bt125.2 = true then (if (bt121.1.length : Int) > 60 then (some (([] : List Bool), [false], false)) else (if (bt125.1.length : Int) > 60 then (some ([], [false], false)) else (some (bt121.1, bt125.1, true)))) else (some ([], [false], false))) else (some ([], [false], false)))) (fun k => ?_) ?_
    · simp only [spec_l1Read.j2]
      rw [if_neg (by simp), if_pos (by omega), if_pos (by omega), wr (x := (i : Int) + 1) (by omega) (by omega), wr (x := (s.size : Int) - 1) (by omega) (by omega)]
      simp only [if_pos (show (0 : Int) ≤ (i : Int) + 1 from by omega), if_pos (show (i : Int) + 1 ≤ (s.size : Int) - 1 from by omega), if_pos (show (s.size : Int) - 1 ≤ (s.size : Int) from by omega)]
      rw [Int.toNat_natCast, show ((i : Int) + 1).toNat = i + 1 from by omega, show ((s.size : Int) - 1).toNat = s.size - 1 from by omega]
    · refine Ev.bind hx (Ev.bind hy (Ev.const fun k => ?_))
      obtain ⟨x1, x2⟩ := x
      obtain ⟨y1, y2⟩ := y
      cases x2 <;> cases y2 <;> simp
      by_cases q1 : x1.length ≤ 60
      · by_cases q2 : y1.length ≤ 60
        · rw [if_neg (by omega), if_neg (by omega), if_pos ⟨q1, q2⟩]
        · rw [if_neg (by omega), if_pos (by omega), if_neg (by omega)]
      · rw [if_pos (by omega), if_neg (by omega)]
  have hfin := hj2 _ _ g1 g2
  rw [e1, e2] at himpl
  simp only [Option.bind_some] at himpl
  rw [o1, o2] at himpl hfin
  simp only [if_true, List.length_map, Bool.and_self, Bool.true_and] at himpl hfin
  rw [y1, y2] at hfin
  rw [y2] at himpl
  refine ⟨⟨?_, by rw [List.length_map]; omega, by rw [List.length_map]; omega⟩, himpl.trans ?_, ?_⟩
  · rw [List.length_map]; omega
  · rw [decide_eq_true (show ((i : Nat) : Int) ≤ 60 from by omega), decide_eq_true (show (((s.size - i - 2 : Nat) : Int) ≤ 60) from by omega), decide_eq_true (show (((s.size - i - 2 : Nat) : Int) > 0) from by omega)]
    rfl
  · rw [decide_eq_true q.1, decide_eq_true q.2] at hfin
    exact hfin

/-- The signs of a list. -/
def tell (l : List Bool) : List UInt8 := l.map fun b => if b = true then 49 else 48
theorem tell_length (l : List Bool) : (tell l).length = l.length := by simp [tell]
theorem tell_back (l : List Bool) : (tell l).map (· == 49) = l := by
  induction l with
  | nil => rfl
  | cons b l ih => cases b <;> simp [tell] at * <;> exact ih
theorem tell_ok (l : List Bool) : okL (tell l) = true := by
  induction l with
  | nil => rfl
  | cons b l ih => cases b <;> simp [tell, okL] at * <;> exact ih
theorem tell_ne (l : List Bool) (j : Nat) (h : j < l.length) : (tell l).getD j 0 ≠ 40 := by
  simp only [tell, List.getD, List.getElem?_map, List.getElem?_eq_getElem h, Option.map_some, Option.getD_some]
  split <;> decide
/-- The text of a tail and a ring. -/
def textL (t r : List Bool) : List UInt8 := tell t ++ 40 :: (tell r ++ [41])
def text (t r : List Bool) : ByteArray := ⟨(textL t r).toArray⟩
theorem textL_length (t r : List Bool) : (textL t r).length = t.length + r.length + 2 := by simp [textL, tell_length]; omega
theorem text_size (t r : List Bool) : (text t r).size = t.length + r.length + 2 := textL_length t r
theorem text_isSet {t r : List Bool} (h : Good t r) : IsSet (text t r) t r := by
  have h1 := h.pos
  have h2 := h.tl
  have h3 := h.rl
  have hz := text_size t r
  have hd : (text t r).data.toList = textL t r := rfl
  have hget : (textL t r).getD t.length 0 = 40 := by
    simp [textL, List.getD, tell_length]
  have hne : ∀ j, j < t.length → (textL t r).getD j 0 ≠ 40 := by
    intro j hj
    have := tell_ne t j hj
    simp only [textL, List.getD] at this ⊢
    rw [List.getElem?_append_left (by rw [tell_length]; exact hj)]
    exact this
  have hlast : (textL t r).getD ((text t r).size - 1) 0 = 41 := by
    rw [hz]
    simp only [textL, List.getD]
    rw [List.getElem?_append_right (by rw [tell_length]; omega), tell_length]
    rw [show t.length + r.length + 2 - 1 - t.length = r.length + 1 from by omega, List.getElem?_cons_succ, List.getElem?_append_right (by rw [tell_length]; omega), tell_length, Nat.sub_self]
    rfl
  have hidx : Lib.indexByte (text t r).data.toList 40 = (t.length : Int) := by
    rcases index_cases (text t r).data.toList 40 with ⟨_, g⟩ | ⟨i, g1, g2, g3, g4⟩
    · exact absurd hget (g t.length (by rw [hd, textL_length]; omega))
    · have : i = t.length := by
        rcases Nat.lt_trichotomy i t.length with c | c | c
        · exact absurd g3 (hne i c)
        · exact c
        · exact absurd hget (g4 t.length c)
      rw [g2, this]
  have x1 : ((text t r).extract 0 t.length).data.toList = tell t := by
    rw [ext_list, hd, List.drop_zero]
    simp [textL, tell_length]
  have x2 : ((text t r).extract (t.length + 1) ((text t r).size - 1)).data.toList = tell r := by
    rw [ext_list, hd, hz]
    have e : textL t r = tell t ++ [40] ++ tell r ++ [41] := by simp [textL]
    rw [e, show t.length + r.length + 2 - 1 = (tell t ++ [40] ++ tell r).length from by simp [tell_length]; omega, List.take_left' rfl, List.append_assoc, ← List.append_assoc]
    exact List.drop_left' (by simp [tell_length])
  have := read_yes (text t r) (by omega) t.length (by rw [hd, textL_length]; omega) hidx hget hne (by omega) hlast (by rw [x1]; exact tell_ok t) (by rw [x2]; exact tell_ok r) ⟨by omega, by omega⟩
  rw [x1, x2, tell_back, tell_back] at this
  exact this
end Go.Proofs.Ytpkpgdlbgcjloaa.Q

namespace Go.Proofs.Ytpkpgdlbgcjloaa.Q
open Go.RowKit Go.Proofs.YtpkpgdlbgcjloaaW.PrintWords Go.Proofs.YtpkpgdlbgcjloaaW.PrintLast Go.Proofs.YtpkpgdlbgcjloaaW.PrintMore
open Go.Proofs.Ytpkpgdlbgcjloaa.Pl
set_option linter.unusedVariables false
set_option linter.unusedSimpArgs false
/-- What is told of a set: the text of its tidy form, if this is not too long. -/
def Told (f : Nat → Bool) (x : ByteArray × Bool) : Prop := ∃ t r, Canon t r ∧ (∀ n, hasB t r n = f n) ∧ x = if t.length ≤ 60 ∧ r.length ≤ 60 then (text t r, true) else ((⟨#[]⟩ : ByteArray), false)
theorem Told.unique {f : Nat → Bool} {x y : ByteArray × Bool} (h : Told f x) (k : Told f y) : x = y := by
  obtain ⟨t, r, h1, h2, rfl⟩ := h
  obtain ⟨t', r', k1, k2, rfl⟩ := k
  obtain ⟨rfl, rfl⟩ := canon_unique h1 k1 (fun n => by rw [h2, k2])
  rfl
theorem Told.congr {f g : Nat → Bool} {x : ByteArray × Bool} (h : Told f x) (e : ∀ n, f n = g n) : Told g x := by
  obtain ⟨t, r, h1, h2, h3⟩ := h
  exact ⟨t, r, h1, fun n => by rw [h2, e], h3⟩
theorem Told.yes {f : Nat → Bool} {x : ByteArray × Bool} (h : Told f x) (e : x.2 = true) : ∃ t r, Canon t r ∧ Good t r ∧ (∀ n, hasB t r n = f n) ∧ x = (text t r, true) := by
  obtain ⟨t, r, h1, h2, rfl⟩ := h
  by_cases c : t.length ≤ 60 ∧ r.length ≤ 60
  · exact ⟨t, r, h1, ⟨h1.pos, c.1, c.2⟩, h2, by rw [if_pos c]⟩
  · rw [if_neg c] at e; cases e
theorem Told.no {f : Nat → Bool} {x : ByteArray × Bool} (h : Told f x) (e : x.2 = false) : x = ((⟨#[]⟩ : ByteArray), false) := by
  obtain ⟨t, r, h1, h2, rfl⟩ := h
  by_cases c : t.length ≤ 60 ∧ r.length ≤ 60
  · rw [if_pos c] at e; cases e
  · rw [if_neg c]
theorem Told.of {f : Nat → Bool} {t r : List Bool} (h : Canon t r) (g : Good t r) (e : ∀ n, hasB t r n = f n) : Told f (text t r, true) := ⟨t, r, h, e, by rw [if_pos ⟨g.tl, g.rl⟩]⟩

theorem tidied_long {t r : List Bool} (ht : t.length ≤ 1073741824) (h1 : 0 < r.length) (h2 : r.length ≤ 1073741824) : ∃ t' r', Ev (fun k => impl_set_tidy.f k t r) (t', r') ∧ Ev (fun k => spec_l1Less.f k t r) (t', r') ∧ Canon t' r' ∧ (∀ n, hasB t' r' n = hasB t r n) := by
  obtain ⟨t', r', g1, g2, g3, g4, g5⟩ := tidy_l0 t r ht h1 h2 (r.length - 1) 1 (by omega) (by omega) (fun e he1 he2 => by omega)
  obtain ⟨t2, r2, k1, k2, k3, k4, k5⟩ := less_ev (t.length + r.length) t r rfl ht h1 h2
  obtain ⟨rfl, rfl⟩ := canon_unique g2 k2 (fun n => by rw [g3, k3])
  exact ⟨t', r', g1, k1, g2, g3⟩

theorem told_eq (l : List Bool) (h : l.length ≤ 1000000) : impl_told.f l = some ⟨(tell l).toArray⟩ := by
  unfold impl_told.f
  rw [if_pos (by omega)]
  rfl
theorem tell_size (l : List Bool) : (⟨(tell l).toArray⟩ : ByteArray).size = l.length := tell_length l
theorem ba_ext {a b : ByteArray} (h : a.data.toList = b.data.toList) : a = b := by
  obtain ⟨⟨a⟩⟩ := a; obtain ⟨⟨b⟩⟩ := b; simp at h; simp [h]
theorem ba_append (a b : ByteArray) : (a ++ b).data.toList = a.data.toList ++ b.data.toList := by simp
theorem text_eq (t r : List Bool) : (((⟨(tell t).toArray⟩ : ByteArray) ++ (⟨#[40]⟩ : ByteArray)) ++ (⟨(tell r).toArray⟩ : ByteArray)) ++ (⟨#[41]⟩ : ByteArray) = text t r := by
  refine ba_ext ?_
  rw [ba_append, ba_append, ba_append]
  simp [text, textL]
theorem text_ev {t r : List Bool} (ht : t.length ≤ 60) (hr : r.length ≤ 60) : Ev (fun k => impl_set_text.f k t r) (text t r, true) := by
  unfold impl_set_text.f
  refine Ev.eq (funext fun k => if_neg (by omega)) ?_
  rw [decide_eq_false (by omega)]
  refine Ev.end fun k => ?_
  simp only [impl_set_text.j0, Bool.false_eq_true, if_false]
  rw [told_eq t (by omega), told_eq r (by omega)]
  simp only [Option.bind_some, tell_size]
  rw [if_pos (by omega), if_pos (by omega), if_pos (by omega), text_eq]
theorem text_no {t r : List Bool} (h : ¬ (t.length ≤ 60 ∧ r.length ≤ 60)) : Ev (fun k => impl_set_text.f k t r) ((⟨#[]⟩ : ByteArray), false) := by
  have go : Ev (fun k => impl_set_text.j0 k true t r) ((⟨#[]⟩ : ByteArray), false) := Ev.end fun k => by simp only [impl_set_text.j0, if_true]
  unfold impl_set_text.f
  by_cases c : (t.length : Int) > 60
  · exact Ev.eq (funext fun k => if_pos c) go
  · refine Ev.eq (funext fun k => if_neg c) ?_
    rw [decide_eq_true (by omega)]
    exact go
theorem text_told {t r : List Bool} (h : Canon t r) : ∃ x, Ev (fun k => impl_set_text.f k t r) x ∧ Told (hasB t r) x := by
  by_cases c : t.length ≤ 60 ∧ r.length ≤ 60
  · exact ⟨_, text_ev c.1 c.2, t, r, h, fun _ => rfl, by rw [if_pos c]⟩
  · exact ⟨_, text_no c, t, r, h, fun _ => rfl, by rw [if_neg c]⟩

def num (b : Bool) : Int := if b = true then 49 else 48
theorem write_step (b : Bool) {α : Type} (g : Int → Option α) : ((spec_l1Bit.f b).bind fun x => if 0 ≤ x then (if x < 2 then g (bt (⟨#[48, 49]⟩ : ByteArray) x) else none) else none) = g (num b) := by
  cases b <;> rfl
theorem write_l1 (t r : List Bool) (hr : r.length ≤ 1000000) (acc : List Int) (hacc : acc.length ≤ 1000000) (d : Nat) : ∀ i, i + d = r.length → Ev (fun k => spec_l1Write.l1 k (acc ++ (r.take i).map num) (i : Nat) t r) (strOfNums (acc ++ r.map num ++ [41])) := by
  induction d with
  | zero =>
    intro i hi
    obtain rfl : i = r.length := by omega
    refine Ev.end fun k => ?_
    simp only [spec_l1Write.l1]
    rw [List.take_of_length_le (Nat.le_refl _), if_neg (by omega), if_pos (by simp; omega)]
  | succ d ih =>
    intro i hi
    have hg : r.take (i + 1) = r.take i ++ [r.getD i false] := by
      rw [List.take_succ_eq_append_getElem (by omega)]; simp [List.getD, List.getElem?_eq_getElem (show i < r.length by omega)]
    refine Ev.step (fun k => ?_) (ih (i + 1) (by omega))
    simp only [spec_l1Write.l1]
    rw [if_pos (by omega), if_pos (by omega), rdOf_nat, write_step (r.getD i false) (fun v => if (acc ++ (r.take i).map num).length < 140737488355328 then spec_l1Write.l1 k ((acc ++ (r.take i).map num) ++ [v]) (wrap64 ((i : Int) + 1)) t r else none)]
    rw [if_pos (by simp; omega), wr1 (by omega), hg, List.map_append, List.append_assoc]
    rfl
theorem write_l0 (t r : List Bool) (ht : t.length ≤ 100000) (hr : r.length ≤ 1000000) (d : Nat) : ∀ i, i + d = t.length → Ev (fun k => spec_l1Write.l0 k ((t.take i).map num) (i : Nat) t r) (strOfNums (t.map num ++ [40] ++ r.map num ++ [41])) := by
  induction d with
  | zero =>
    intro i hi
    obtain rfl : i = t.length := by omega
    have := write_l1 t r hr (t.map num ++ [40]) (by simp; omega) r.length 0 (by omega)
    refine Ev.step (fun k => ?_) this
    simp only [spec_l1Write.l0]
    rw [List.take_of_length_le (Nat.le_refl _), if_neg (by omega), if_pos (by simp; omega), List.take_zero, List.map_nil, List.append_nil]
    rfl
  | succ d ih =>
    intro i hi
    have hg : t.take (i + 1) = t.take i ++ [t.getD i false] := by
      rw [List.take_succ_eq_append_getElem (by omega)]; simp [List.getD, List.getElem?_eq_getElem (show i < t.length by omega)]
    refine Ev.step (fun k => ?_) (ih (i + 1) (by omega))
    simp only [spec_l1Write.l0]
    rw [if_pos (by omega), if_pos (by omega), rdOf_nat, write_step (t.getD i false) (fun v => if ((t.take i).map num).length < 140737488355328 then spec_l1Write.l0 k (((t.take i).map num) ++ [v]) (wrap64 ((i : Int) + 1)) t r else none)]
    rw [if_pos (by simp; omega), wr1 (by omega), hg, List.map_append]
    rfl
theorem num_byte (l : List Bool) : (l.map num).map (fun n : Int => UInt8.ofNat n.toNat) = tell l := by
  induction l with
  | nil => rfl
  | cons b l ih => simp only [List.map_cons, ih, tell]; cases b <;> rfl
theorem str_text (t r : List Bool) : strOfNums (t.map num ++ [40] ++ r.map num ++ [41]) = text t r := by
  unfold strOfNums text textL
  rw [List.map_append, List.map_append, List.map_append, num_byte, num_byte]
  simp
theorem write_ev {t r : List Bool} (ht : t.length ≤ 60) (hr : r.length ≤ 60) : Ev (fun k => spec_l1Write.f k t r) (text t r) := by
  have := write_l0 t r (by omega) (by omega) t.length 0 (by omega)
  rw [str_text] at this
  exact this
theorem done_told {t r : List Bool} (ht : t.length ≤ 1073741824) (h1 : 0 < r.length) (h2 : r.length ≤ 1073741824) : ∃ x, Ev (fun k => spec_l1Done.f k t r) x ∧ Told (hasB t r) x := by
  obtain ⟨t', r', g1, g2, g3, g4⟩ := tidied_long ht h1 h2
  unfold spec_l1Done.f
  by_cases c1 : t'.length ≤ 60
  · by_cases c2 : r'.length ≤ 60
    · refine ⟨(text t' r', true), Ev.bind g2 (Ev.eq (funext fun k => if_neg (by show ¬ (t'.length : Int) > 60; omega)) (Ev.eq (funext fun k => if_neg (by show ¬ (r'.length : Int) > 60; omega)) (Ev.bind (write_ev c1 c2) (Ev.now _)))), t', r', g3, g4, by rw [if_pos ⟨c1, c2⟩]⟩
    · refine ⟨((⟨#[]⟩ : ByteArray), false), Ev.bind g2 (Ev.eq (funext fun k => if_neg (by show ¬ (t'.length : Int) > 60; omega)) (Ev.eq (funext fun k => if_pos (by show (r'.length : Int) > 60; omega)) (Ev.now _))), t', r', g3, g4, by rw [if_neg (fun h => c2 h.2)]⟩
  · refine ⟨((⟨#[]⟩ : ByteArray), false), Ev.bind g2 (Ev.eq (funext fun k => if_pos (by show (t'.length : Int) > 60; omega)) (Ev.now _)), t', r', g3, g4, by rw [if_neg (fun h => c1 h.1)]⟩
theorem fill_told {l : List Bool} {m : Nat} (hl : l.length ≤ 1073741824) (hm : m < l.length) : ∃ x, Ev (fun k => spec_l2Fill.f k l m) x ∧ Told (hasB (l.take m) (l.drop m)) x := by
  obtain ⟨x, h1, h2⟩ := done_told (t := l.take m) (r := l.drop m) (by rw [List.length_take]; omega) (by rw [List.length_drop]; omega) (by rw [List.length_drop]; omega)
  refine ⟨x, ?_, h2⟩
  unfold spec_l2Fill.f
  refine Ev.eq (funext fun k => if_pos (by omega)) (Ev.eq (funext fun k => if_pos (by omega)) ?_)
  simp only [Int.toNat_natCast]
  exact Ev.bind h1 (Ev.now _)

theorem per_of {f : Nat → Bool} {from_ size : Nat} (h1 : 1 ≤ size) (hp : ∀ n, from_ ≤ n → f (n + size) = f n) (n : Nat) : hasB ((List.range from_).map f) ((List.range size).map fun i => f (from_ + i)) n = f n := by
  have e1 : ((List.range from_).map f).length = from_ := by simp
  have e2 : ((List.range size).map fun i => f (from_ + i)).length = size := by simp
  rcases Nat.lt_or_ge n from_ with c | c
  · rw [hasB_lt (by rw [e1]; exact c)]
    simp [List.getD, c]
  · rw [hasB_ge (by rw [e1]; exact c), e1, e2]
    have hm := Nat.mod_lt (n - from_) h1
    have hd := Nat.div_add_mod (n - from_) size
    have hq : ∀ q m, from_ ≤ m → f (m + q * size) = f m := by
      intro q
      induction q with
      | zero => intro m _; simp
      | succ q ih => intro m hm; rw [Nat.succ_mul, ← Nat.add_assoc, hp _ (by omega), ih m hm]
    simp only [List.getD, List.getElem?_map, List.getElem?_range hm, Option.map_some, Option.getD_some]
    rw [← hq ((n - from_) / size) (from_ + (n - from_) % size) (by omega), Nat.mul_comm]
    congr 1
    omega
theorem range_snoc (f : Nat → Bool) (i : Nat) : (List.range (i + 1)).map f = (List.range i).map f ++ [f i] := by rw [List.range_succ, List.map_append]; rfl
theorem made_l1 (f : Nat → Bool) (from_ size : Nat) (hb : from_ ≤ 1000000 ∧ size ≤ 1000000) (p : Int → Option Bool) (hp : ∀ n : Nat, n < from_ + size → p n = some (f n)) (T : List Bool) {x : ByteArray × Bool}
    (hx : Ev (fun k => (impl_set_tidy.f k T ((List.range size).map fun i => f (from_ + i))).bind fun b => (impl_set_text.f k b.1 b.2).bind fun c => some (c.1, c.2)) x) (d : Nat) :
    ∀ i, i + d = size → Ev (fun k => impl_made.l1 p k from_ size (i : Nat) T ((List.range i).map fun i => f (from_ + i))) x := by
  induction d with
  | zero =>
    intro i hi
    obtain rfl : i = size := by omega
    refine Ev.step (fun k => ?_) hx
    simp only [impl_made.l1]
    rw [if_neg (by omega)]
  | succ d ih =>
    intro i hi
    refine Ev.step (fun k => ?_) (ih (i + 1) (by omega))
    simp only [impl_made.l1]
    rw [if_pos (by omega), wr (x := (from_ : Int) + (i : Int)) (by omega) (by omega), show (from_ : Int) + (i : Int) = ((from_ + i : Nat) : Int) from by omega, hp _ (by omega)]
    simp only [Option.bind_some]
    rw [if_pos (by simp; omega), wr1 (by omega), range_snoc (fun i => f (from_ + i))]
theorem made_l0 (f : Nat → Bool) (from_ size : Nat) (hb : from_ ≤ 1000000 ∧ size ≤ 1000000) (p : Int → Option Bool) (hp : ∀ n : Nat, n < from_ + size → p n = some (f n)) {x : ByteArray × Bool}
    (hx : Ev (fun k => impl_made.l1 p k from_ size 0 ((List.range from_).map f) ([] : List Bool)) x) (d : Nat) :
    ∀ i, i + d = from_ → Ev (fun k => impl_made.l0 p k from_ size from_ (i : Nat) ((List.range i).map f)) x := by
  induction d with
  | zero =>
    intro i hi
    obtain rfl : i = from_ := by omega
    refine Ev.step (fun k => ?_) hx
    simp only [impl_made.l0]
    rw [if_neg (by omega)]
  | succ d ih =>
    intro i hi
    refine Ev.step (fun k => ?_) (ih (i + 1) (by omega))
    simp only [impl_made.l0]
    rw [if_pos (by omega), hp _ (by omega)]
    simp only [Option.bind_some]
    rw [if_pos (by simp; omega), wr1 (by omega), range_snoc f]
theorem made_ev {f : Nat → Bool} {from_ size : Nat} (h1 : 1 ≤ size) (hb : from_ ≤ 1000000 ∧ size ≤ 1000000) (hper : ∀ n, from_ ≤ n → f (n + size) = f n) {P : Nat → Int → Option Bool} (hP : ∀ n : Nat, n < from_ + size → Ev (fun k => P k n) (f n)) :
    ∃ x, Ev (fun k => impl_made.f k from_ size (P k)) x ∧ Told f x := by
  have e2 : ((List.range size).map fun i => f (from_ + i)).length = size := by simp
  obtain ⟨t, r, g1, g2, g3, g4⟩ := tidied_long (t := (List.range from_).map f) (r := (List.range size).map fun i => f (from_ + i)) (by simp; omega) (by rw [e2]; omega) (by rw [e2]; omega)
  obtain ⟨x, k1, k2⟩ := text_told g3
  refine ⟨x, ?_, k2.congr fun n => by rw [g4, per_of h1 hper]⟩
  -- the question, told once
  let p0 : Int → Option Bool := fun n => if 0 ≤ n ∧ n < (from_ + size : Nat) then some (f n.toNat) else none
  have hp0 : ∀ n : Nat, n < from_ + size → p0 n = some (f n) := by
    intro n hn
    show (if 0 ≤ (n : Int) ∧ (n : Int) < (from_ + size : Nat) then some (f (n : Int).toNat) else none) = _
    rw [if_pos ⟨by omega, by omega⟩, Int.toNat_natCast]
  have h0 : Ev (fun k => impl_made.f k from_ size p0) x := by
    have a1 := made_l1 f from_ size hb p0 hp0 ((List.range from_).map f) (x := x) (Ev.bind g1 (Ev.bind k1 (Ev.now _))) size 0 (by omega)
    exact made_l0 f from_ size hb p0 hp0 a1 from_ 0 (by omega)
  -- all of P's answers from one number of rounds on
  have hK : ∀ N, N ≤ from_ + size → ∃ K, ∀ k, K ≤ k → ∀ n : Nat, n < N → P k n = some (f n) := by
    intro N
    induction N with
    | zero => intro _; exact ⟨0, fun k _ n hn => absurd hn (Nat.not_lt_zero n)⟩
    | succ N ih =>
      intro hN
      obtain ⟨K, hK⟩ := ih (by omega)
      obtain ⟨L, hL⟩ := hP N (by omega)
      refine ⟨max K L, fun k hk n hn => ?_⟩
      rcases Nat.lt_or_ge n N with c | c
      · exact hK k (by omega) n c
      · obtain rfl : n = N := by omega
        exact hL k (by omega)
  obtain ⟨K, hK⟩ := hK _ (Nat.le_refl _)
  obtain ⟨L, hL⟩ := h0
  refine ⟨max K L + 1, fun k hk => ?_⟩
  obtain ⟨m, rfl⟩ : ∃ m, k = m + 1 := ⟨k - 1, by omega⟩
  refine impl_made.mono p0 (P (m + 1)) (fun n q hq => ?_) (from_ : Int) (size : Int) m x (hL m (by omega))
  have hq' : (if 0 ≤ n ∧ n < (from_ + size : Nat) then some (f n.toNat) else none) = some q := hq
  by_cases c : 0 ≤ n ∧ n < (from_ + size : Nat)
  · rw [if_pos c] at hq'
    have := hK (m + 1) (by omega) n.toNat (by omega)
    rw [Int.toNat_of_nonneg c.1] at this
    rw [this]; exact hq'
  · rw [if_neg c] at hq'; cases hq'


theorem gcd_ev (b : Nat) : ∀ a : Nat, Ev (fun k => impl_gcd.f k (a : Int) (b : Int)) ((Nat.gcd a b : Nat) : Int) := by
  induction b using Nat.strongRecOn with
  | _ b ih =>
    intro a
    by_cases c : b = 0
    · subst c
      refine Ev.end fun k => ?_
      simp only [impl_gcd.f, impl_gcd.l0]
      rw [if_pos (by omega), Nat.gcd_zero_right]
    · have h1 := ih (a % b) (Nat.mod_lt _ (by omega)) b
      rw [Nat.gcd_comm b, ← Nat.gcd_rec, Nat.gcd_comm] at h1
      refine Ev.step (fun k => ?_) h1
      simp only [impl_gcd.f, impl_gcd.l0]
      rw [if_neg (by omega), tmod_nat]


theorem lcm_ev {p q : Nat} (hp : 1 ≤ p) (hp2 : p ≤ 60) (hq2 : q ≤ 60) : Ev (fun k => impl_lcm.f k (p : Int) (q : Int)) ((Nat.lcm p q : Nat) : Int) := by
  have hg : 0 < Nat.gcd p q := Nat.gcd_pos_of_pos_left _ hp
  have hd := Nat.div_le_self p (Nat.gcd p q)
  have hm : p / Nat.gcd p q * q ≤ 60 * 60 := Nat.mul_le_mul (by omega) hq2
  have he := lcm_eq p q
  unfold impl_lcm.f
  refine Ev.bind (gcd_ev q p) (Ev.const fun k => ?_)
  rw [if_neg (by omega), tdiv_nat]
  generalize Nat.gcd p q = g at *
  generalize p / g = a at *
  rw [wr (x := (a : Int)) (by omega) (by omega), ← Int.natCast_mul, he, wr (by omega) (by omega)]
/-- Marks of a set that comes again from m on, cut there. -/
theorem fill_tells {l : List Bool} {f : Nat → Bool} {m N : Nat} (hl : Tells l f N) (hm : m < N) (hN : N ≤ 1073741824) (hper : ∀ n, m ≤ n → f (n + (N - m)) = f n) : ∃ x, Ev (fun k => spec_l2Fill.f k l m) x ∧ Told f x := by
  obtain ⟨x, h1, h2⟩ := fill_told (l := l) (m := m) (by rw [hl.len]; exact hN) (by rw [hl.len]; exact hm)
  refine ⟨x, h1, h2.congr fun n => ?_⟩
  have e1 : l.take m = (List.range m).map f := by
    refine ext_getD (by simp [hl.len]; omega) fun i hi => ?_
    have hi2 : i < m := by simp [hl.len] at hi; omega
    rw [getD_take hi2, hl.get i (by omega)]
    simp [List.getD, hi2]
  have e2 : l.drop m = (List.range (N - m)).map fun i => f (m + i) := by
    refine ext_getD (by simp [hl.len]) fun i hi => ?_
    have hi2 : i < N - m := by simp [hl.len] at hi; omega
    have := hl.get (m + i) (by omega)
    simp only [List.getD, List.getElem?_drop, List.getElem?_map, List.getElem?_range hi2, Option.map_some, Option.getD_some] at this ⊢
    exact this
  rw [e1, e2]
  exact per_of (by omega) hper n
theorem tells_range (f : Nat → Bool) (N : Nat) : Tells ((List.range N).map f) f N := ⟨by simp, fun j hj => by simp [List.getD, hj]⟩

theorem sumOf_impl {s u : ByteArray} {ta ra tb rb : List Bool} (h : IsSmall s ta ra) (h2 : IsSmall u tb rb) : ∃ x, Ev (fun k => impl_SumOf.f k s u) x ∧ Told (sumB (hasB ta ra) (hasB tb rb)) x := by
  have hL := lcm_small _ h.rl _ h2.rl h.good.pos h2.good.pos
  have hp := lcm_pos h.good.pos h2.good.pos
  have t1 := h.tl
  have t2 := h2.tl
  obtain ⟨x, k1, k2⟩ := made_ev (f := sumB (hasB ta ra) (hasB tb rb)) (from_ := 200) (size := Nat.lcm ra.length rb.length) hp ⟨by omega, by omega⟩
    (fun n hn => sumB_period (Nat.lcm ra.length rb.length) (lcm_mod_left _ _) (lcm_mod_right _ _) (by omega)) (P := fun k n => impl_sums.f k ta ra tb rb n) (fun n hn => sums_ev h.good h2.good n (by omega))
  refine ⟨x, ?_, k2⟩
  unfold impl_SumOf.f
  refine Ev.bind h.impl (Ev.bind h2.impl ?_)
  simp only [if_true]
  refine Ev.step (f := fun k => (impl_lcm.f k (ra.length : Int) (rb.length : Int)).bind fun t => (impl_made.f k 200 t (fun n_ => impl_sums.f k ta ra tb rb n_)).bind fun b => some (b.1, b.2)) (fun k => by simp only [impl_SumOf.j0, Bool.not_true, Bool.false_eq_true, if_false]) ?_
  exact Ev.bind (lcm_ev h.good.pos h.good.rl h2.good.rl) (Ev.bind k1 (Ev.now _))

theorem sum_l1 {ta ra tb rb : List Bool} (ha : Good ta ra) (hb : Good tb rb) (T L : Nat) (acc : List Bool) (i : Nat) (hi : i ≤ 1000000) (hacc : acc.length = i) {res : ByteArray × Bool}
    (hend : Ev (fun k => spec_l4Sum.l0 k false T L (acc ++ [sumB (hasB ta ra) (hasB tb rb) i]) ((i + 1 : Nat) : Int) ta ra tb rb) res) (d : Nat) :
    ∀ (q : Nat) (b : Bool), q + d = i + 1 → (b = true ↔ ∃ y, y < q ∧ hasB ta ra y = true ∧ hasB tb rb (i - y) = true) → Ev (fun k => spec_l4Sum.l1 k false T L acc (i : Nat) b (q : Nat) ta ra tb rb) res := by
  induction d with
  | zero =>
    intro q b hq hbq
    have e : b = sumB (hasB ta ra) (hasB tb rb) i := by
      rw [Bool.eq_iff_iff, hbq, sumB_iff]
      exact ⟨fun ⟨y, a, c⟩ => ⟨y, by omega, c⟩, fun ⟨y, a, c⟩ => ⟨y, by omega, c⟩⟩
    refine Ev.step (fun k => ?_) hend
    simp only [spec_l4Sum.l1]
    rw [if_neg (by omega), if_pos (by omega), wr1 (by omega), e]
  | succ d ih =>
    intro q b hq hbq
    have hw : wrap64 ((i : Int) - (q : Int)) = ((i - q : Nat) : Int) := wrs (by omega) (by omega)
    cases b with
    | true =>
      obtain ⟨y, y1, y2⟩ := hbq.1 rfl
      refine Ev.step (fun k => ?_) (ih (q + 1) true (by omega) ⟨fun _ => ⟨y, by omega, y2⟩, fun _ => rfl⟩)
      simp only [spec_l4Sum.l1]
      rw [if_pos (by omega), if_pos trivial, wr1 (by omega)]
    | false =>
      have hno : ∀ y, y < q → ¬ (hasB ta ra y = true ∧ hasB tb rb (i - y) = true) := fun y h1 h2 => by
        have := hbq.2 ⟨y, h1, h2⟩
        cases this
      have st : ∀ v : Bool, (v = true ↔ hasB ta ra q = true ∧ hasB tb rb (i - q) = true) → Ev (fun k => spec_l4Sum.l1 k false T L acc (i : Nat) v ((q + 1 : Nat) : Int) ta ra tb rb) res := by
        intro v hv
        refine ih (q + 1) v (by omega) ?_
        rw [hv]
        constructor
        · intro hx; exact ⟨q, by omega, hx⟩
        · rintro ⟨y, h1, h2⟩
          rcases Nat.lt_or_ge y q with c | c
          · exact absurd h2 (hno y c)
          · obtain rfl : y = q := by omega
            exact h2
      cases c1 : hasB ta ra q with
      | false =>
        refine Ev.step (fun k => ?_) (st false ⟨fun h => (by cases h), fun h => (by rw [c1] at h; cases h.1)⟩)
        simp only [spec_l4Sum.l1]
        rw [if_pos (by omega), if_neg (by simp), l1_has ha q (by omega), c1]
        simp only [Option.bind_some, Bool.false_eq_true, if_false]
        rw [wr1 (by omega)]
      | true =>
        cases c2 : hasB tb rb (i - q) with
        | false =>
          refine Ev.step (fun k => ?_) (st false ⟨fun h => (by cases h), fun h => (by rw [c2] at h; cases h.2)⟩)
          simp only [spec_l4Sum.l1]
          rw [if_pos (by omega), if_neg (by simp), l1_has ha q (by omega), c1]
          simp only [Option.bind_some, if_true, hw]
          rw [l1_has hb (i - q) (by omega), c2]
          simp only [Option.bind_some, Bool.false_eq_true, if_false]
          rw [wr1 (by omega)]
        | true =>
          refine Ev.step (fun k => ?_) (st true ⟨fun _ => ⟨c1, c2⟩, fun _ => rfl⟩)
          simp only [spec_l4Sum.l1]
          rw [if_pos (by omega), if_neg (by simp), l1_has ha q (by omega), c1]
          simp only [Option.bind_some, if_true, hw]
          rw [l1_has hb (i - q) (by omega), c2]
          simp only [Option.bind_some, if_true, Bool.false_eq_true, if_false]
          rw [wr1 (by omega)]
theorem sum_l0 {ta ra tb rb : List Bool} (ha : Good ta ra) (hb : Good tb rb) (T L : Nat) (hTL : T + L ≤ 100000) {x : ByteArray × Bool} (hx : Ev (fun k => spec_l2Fill.f k ((List.range (T + L)).map (sumB (hasB ta ra) (hasB tb rb))) T) x) (d : Nat) :
    ∀ i, i + d = T + L → Ev (fun k => spec_l4Sum.l0 k false T L ((List.range i).map (sumB (hasB ta ra) (hasB tb rb))) (i : Nat) ta ra tb rb) x := by
  induction d with
  | zero =>
    intro i hi
    obtain rfl : i = T + L := by omega
    refine Ev.step (f := fun k => (spec_l2Fill.f k ((List.range (T + L)).map (sumB (hasB ta ra) (hasB tb rb))) T).bind fun b => some (b.1, b.2)) (fun k => ?_) (Ev.bind hx (Ev.now _))
    simp only [spec_l4Sum.l0]
    rw [wr (x := (T : Int) + (L : Int)) (by omega) (by omega), if_neg (by omega)]
  | succ d ih =>
    intro i hi
    have h1 := ih (i + 1) (by omega)
    rw [range_snoc] at h1
    refine Ev.step (fun k => ?_) (sum_l1 ha hb T L _ i (by omega) (by simp) h1 (i + 1) 0 false (by omega) ⟨fun h => (by cases h), fun ⟨y, hy, _⟩ => absurd hy (Nat.not_lt_zero y)⟩)
    simp only [spec_l4Sum.l0]
    rw [wr (x := (T : Int) + (L : Int)) (by omega) (by omega), if_pos (by omega)]
    rfl
theorem sumOf_spec {s u : ByteArray} {ta ra tb rb : List Bool} (h : IsSmall s ta ra) (h2 : IsSmall u tb rb) : ∃ x, Ev (fun k => spec_SumOf.f k s u) x ∧ Told (sumB (hasB ta ra) (hasB tb rb)) x := by
  have hL := lcm_small _ h.rl _ h2.rl h.good.pos h2.good.pos
  have hp := lcm_pos h.good.pos h2.good.pos
  have t1 := h.tl
  have t2 := h2.tl
  have hsh := shape_ev h.good h2.good
  have hper := fun n hn => sumB_period (ta := ta) (ra := ra) (tc := tb) (rc := rb) (n := n) (Nat.lcm ra.length rb.length) (lcm_mod_left _ _) (lcm_mod_right _ _) hn
  generalize Nat.lcm ra.length rb.length = L at *
  have hM : max ta.length tb.length ≤ 8 := by omega
  have hM2 : ta.length + tb.length ≤ 2 * max ta.length tb.length := by omega
  generalize max ta.length tb.length = M at *
  obtain ⟨x, k1, k2⟩ := fill_tells (m := 2 * M + 3 * L + 2) (N := (2 * M + 3 * L + 2) + L) (tells_range (sumB (hasB ta ra) (hasB tb rb)) _) (by omega) (by omega) (fun n hn => by rw [Nat.add_sub_cancel_left]; exact hper n (by omega))
  have k3 := sum_l0 h.good h2.good (2 * M + 3 * L + 2) L (by omega) k1 _ 0 (Nat.zero_add _)
  refine ⟨x, ?_, k2⟩
  unfold spec_SumOf.f
  refine Ev.bind h.spec (Ev.bind h2.spec ?_)
  simp only [if_true]
  refine Ev.bind (f := fun k (b : ByteArray × Bool) => some (b.1, b.2)) (a := x) ?_ (Ev.now x)
  unfold spec_l4Sum.f
  refine Ev.bind hsh ?_
  have e1 : wrap64 ((wrap64 ((wrap64 (2 * (M : Int))) + (wrap64 (3 * (L : Int))))) + 2) = ((2 * M + 3 * L + 2 : Nat) : Int) := by
    rw [wr (x := 2 * (M : Int)) (by omega) (by omega), wr (x := 3 * (L : Int)) (by omega) (by omega), wr (x := 2 * (M : Int) + 3 * (L : Int)) (by omega) (by omega), wr (by omega) (by omega)]; omega
  simp only [e1]
  exact k3
theorem sumOf_both {s u : ByteArray} {ta ra tb rb : List Bool} (h : IsSmall s ta ra) (h2 : IsSmall u tb rb) : ∃ x, Ev (fun k => impl_SumOf.f k s u) x ∧ Ev (fun k => spec_SumOf.f k s u) x ∧ Told (sumB (hasB ta ra) (hasB tb rb)) x := by
  obtain ⟨x, k1, k2⟩ := sumOf_impl h h2
  obtain ⟨y, j1, j2⟩ := sumOf_spec h h2
  obtain rfl := k2.unique j2
  exact ⟨x, k1, j1, k2⟩
theorem sumOf_no {s u : ByteArray} (hs : NoSmall s ∨ ∃ t r, IsSmall s t r) (hu : NoSmall u ∨ ∃ t r, IsSmall u t r) (h : NoSmall s ∨ NoSmall u) : Ev (fun k => impl_SumOf.f k s u) ((⟨#[]⟩ : ByteArray), false) ∧ Ev (fun k => spec_SumOf.f k s u) ((⟨#[]⟩ : ByteArray), false) := by
  have any : ∀ w : ByteArray, (NoSmall w ∨ ∃ t r, IsSmall w t r) → ∃ a b c d ok, Ev (fun k => impl_small.f k w) (a, b, ok) ∧ Ev (fun k => spec_l4Small.f k w) (c, d, ok) ∧ (NoSmall w → ok = false) := by
    rintro w (k | ⟨t, r, k⟩)
    · obtain ⟨⟨a, b, e1⟩, ⟨c, d, e2⟩⟩ := k
      exact ⟨a, b, c, d, false, e1, e2, fun _ => rfl⟩
    · refine ⟨t, r, t, r, true, k.impl, k.spec, fun k2 => ?_⟩
      obtain ⟨⟨a, b, e1⟩, _⟩ := k2
      have := Ev.unique k.impl e1
      simp only [Prod.mk.injEq] at this
      exact absurd this.2.2 (by simp)
  obtain ⟨a, b, c, d, o, g1, g2, g3⟩ := any s hs
  obtain ⟨a', b', c', d', o', g1', g2', g3'⟩ := any u hu
  have ho : o = false ∨ o' = false := h.elim (fun k => .inl (g3 k)) (fun k => .inr (g3' k))
  constructor
  · unfold impl_SumOf.f
    refine Ev.bind g1 (Ev.bind g1' ?_)
    have fin : ∀ x : Bool, x = true → Ev (fun k => impl_SumOf.j0 k x a b a' b') ((⟨#[]⟩ : ByteArray), false) := fun x hx => Ev.end fun k => by simp only [impl_SumOf.j0]; rw [if_pos hx]
    cases o with
    | false => simp only [Bool.false_eq_true, if_false]; exact fin _ rfl
    | true =>
      simp only [if_true]
      exact fin _ (by rcases ho with h | h; cases h; rw [h]; rfl)
  · unfold spec_SumOf.f
    refine Ev.bind g2 (Ev.bind g2' ?_)
    cases o with
    | false => simp only [Bool.false_eq_true, if_false]; exact Ev.now _
    | true =>
      have : o' = false := by rcases ho with h | h; cases h; exact h
      subst this
      simp only [if_true, Bool.false_eq_true, if_false]; exact Ev.now _


/-- The least number greater than 0, or 0 without one. -/
structure Least (t r : List Bool) (m : Nat) : Prop where
  cases : (m = 0 ∧ ∀ z, 1 ≤ z → hasB t r z = false) ∨ (1 ≤ m ∧ m ≤ t.length + r.length ∧ hasB t r m = true ∧ ∀ z, 1 ≤ z → z < m → hasB t r z = false)
theorem Least.unique {t r : List Bool} {m m' : Nat} (h : Least t r m) (k : Least t r m') : m = m' := by
  rcases h.cases with ⟨h1, h2⟩ | ⟨h1, h2, h3, h4⟩
  · rcases k.cases with ⟨k1, k2⟩ | ⟨k1, k2, k3, k4⟩
    · omega
    · rw [h2 m' k1] at k3; cases k3
  · rcases k.cases with ⟨k1, k2⟩ | ⟨k1, k2, k3, k4⟩
    · rw [k2 m h1] at h3; cases h3
    · rcases Nat.lt_trichotomy m m' with c | c | c
      · rw [k4 m h1 c] at h3; cases h3
      · exact c
      · rw [h4 m' k1 c] at k3; cases k3
theorem least_impl_l0 {t r : List Bool} (h : Good t r) (d : Nat) : ∀ i, i + d = t.length + r.length + 1 → 1 ≤ i → (∀ z, 1 ≤ z → z < i → hasB t r z = false) → ∃ m, Least t r m ∧ Ev (fun k => impl_set_least.l0 k (i : Nat) t r) ((m : Nat) : Int) := by
  have h2 := h.tl
  have h3 := h.rl
  have hw : wrap64 ((t.length : Int) + (r.length : Int)) = ((t.length + r.length : Nat) : Int) := by rw [wr (by omega) (by omega)]; omega
  induction d with
  | zero =>
    intro i hi h1 hno
    refine ⟨0, ⟨.inl ⟨rfl, none_far h.pos fun z z1 z2 => hno z z1 (by omega)⟩⟩, Ev.end fun k => ?_⟩
    simp only [impl_set_least.l0, hw]
    rw [if_neg (by omega)]
    rfl
  | succ d ih =>
    intro i hi h1 hno
    cases c : hasB t r i with
    | true =>
      refine ⟨i, ⟨.inr ⟨h1, by omega, c, hno⟩⟩, Ev.end fun k => ?_⟩
      simp only [impl_set_least.l0, hw]
      rw [if_pos (by omega), set_has h i (by omega), c]
      rfl
    | false =>
      obtain ⟨m, m1, m2⟩ := ih (i + 1) (by omega) (by omega) (fun z z1 z2 => by
        rcases Nat.lt_or_ge z i with e | e
        · exact hno z z1 e
        · obtain rfl : z = i := by omega
          exact c)
      refine ⟨m, m1, Ev.step (fun k => ?_) m2⟩
      simp only [impl_set_least.l0, hw]
      rw [if_pos (by omega), set_has h i (by omega), c]
      simp only [Option.bind_some, Bool.false_eq_true, if_false]
      rw [wr1 (by omega)]
theorem least_spec_l0 {t r : List Bool} (h : Good t r) (hs : t.length + r.length ≤ 20) (d : Nat) : ∀ i, i + d = 21 → 1 ≤ i → (∀ z, 1 ≤ z → z < i → hasB t r z = false) → ∃ m, Least t r m ∧ Ev (fun k => spec_l4Least.l0 k (i : Nat) t r) ((m : Nat) : Int) := by
  induction d with
  | zero =>
    intro i hi h1 hno
    refine ⟨0, ⟨.inl ⟨rfl, none_far h.pos fun z z1 z2 => hno z z1 (by omega)⟩⟩, Ev.end fun k => ?_⟩
    simp only [spec_l4Least.l0]
    rw [if_neg (by omega)]
    rfl
  | succ d ih =>
    intro i hi h1 hno
    cases c : hasB t r i with
    | true =>
      refine ⟨i, ⟨.inr ⟨h1, ?_, c, hno⟩⟩, Ev.end fun k => ?_⟩
      · rcases Nat.lt_or_ge (t.length + r.length) i with e | e
        · rw [none_far h.pos (fun z z1 z2 => hno z z1 (by omega)) i h1] at c; cases c
        · exact e
      · simp only [spec_l4Least.l0]
        rw [if_pos (by omega), l1_has h i (by omega), c]
        rfl
    | false =>
      obtain ⟨m, m1, m2⟩ := ih (i + 1) (by omega) (by omega) (fun z z1 z2 => by
        rcases Nat.lt_or_ge z i with e | e
        · exact hno z z1 e
        · obtain rfl : z = i := by omega
          exact c)
      refine ⟨m, m1, Ev.step (fun k => ?_) m2⟩
      simp only [spec_l4Least.l0]
      rw [if_pos (by omega), l1_has h i (by omega), c]
      simp only [Option.bind_some, Bool.false_eq_true, if_false]
      rw [wr1 (by omega)]
theorem least_both {t r : List Bool} (h : Good t r) (hs : t.length + r.length ≤ 20) : ∃ m, Least t r m ∧ Ev (fun k => impl_set_least.f k t r) ((m : Nat) : Int) ∧ Ev (fun k => spec_l4Least.f k t r) ((m : Nat) : Int) := by
  obtain ⟨m, a1, a2⟩ := least_impl_l0 h (t.length + r.length) 1 (by omega) (by omega) (fun z z1 z2 => by omega)
  obtain ⟨m', b1, b2⟩ := least_spec_l0 h hs 20 1 (by omega) (by omega) (fun z z1 z2 => by omega)
  obtain rfl := a1.unique b1
  exact ⟨m, a1, a2, b2⟩

structure Parts (f : Nat → Bool) (ps : List Nat) (x : Nat) : Prop where
  all : ∀ q ∈ ps, 1 ≤ q ∧ q < x ∧ f q = true
  some : ∀ y, 1 ≤ y → y < x → f y = true → ∃ q ∈ ps, q ≤ y ∧ star f (y - q) = true
  few : ps.length ≤ x
theorem parts_star {f : Nat → Bool} {ps : List Nat} {x : Nat} (h : Parts f ps x) (hx : 1 ≤ x) : star f x = true ↔ (∃ q ∈ ps, star f (x - q) = true) ∨ f x = true := by
  constructor
  · intro hs
    obtain ⟨y, a, b, c, d⟩ := (star_iff f hx).1 hs
    rcases Nat.lt_or_ge y x with e | e
    · obtain ⟨q, q1, q2, q3⟩ := h.some y a e c
      refine .inl ⟨q, q1, ?_⟩
      have := star_add (y - q) (x - y) q3 d
      rwa [show y - q + (x - y) = x - q from by omega] at this
    · obtain rfl : y = x := by omega
      exact .inr c
  · rintro (⟨q, q1, q2⟩ | hf)
    · obtain ⟨a, b, c⟩ := h.all q q1
      exact (star_iff f hx).2 ⟨q, a, by omega, c, q2⟩
    · exact (star_iff f hx).2 ⟨x, hx, Nat.le_refl _, hf, by rw [Nat.sub_self]; exact star_zero f⟩
theorem rd_cast (ps : List Nat) (i : Nat) (h : i < ps.length) : rd (ps.map fun y : Nat => (y : Int)) (i : Int) = ((ps[i] : Nat) : Int) := by
  simp [rd, List.getD, h]
theorem star4_l1 {t r : List Bool} (N x : Nat) (hN : N ≤ 1000000) (hx : x < N) (ps : List Nat) (hps : Parts (hasB t r) ps x) (Q : List Bool → Prop)
    (hend : ∀ l, l.length = N → (∀ j, j < x → l.getD j false = star (hasB t r) j) → (∀ j, x < j → l.getD j false = false) → (l.getD x false = true ↔ ∃ q ∈ ps, star (hasB t r) (x - q) = true) → ∃ l', Ev (fun k => spec_l4Star.j2 k N l (ps.map fun y : Nat => (y : Int)) x t r) l' ∧ Q l') (d : Nat) :
    ∀ (i : Nat) (l : List Bool), i + d = ps.length → l.length = N → (∀ j, j < x → l.getD j false = star (hasB t r) j) → (∀ j, x < j → l.getD j false = false) → (l.getD x false = true → ∃ q ∈ ps, star (hasB t r) (x - q) = true) → (l.getD x false = false → ∀ j, j < i → ∀ h : j < ps.length, star (hasB t r) (x - ps[j]) = false) →
      ∃ l', Ev (fun k => spec_l4Star.l1 k N l (ps.map fun y : Nat => (y : Int)) x (i : Nat) t r) l' ∧ Q l' := by
  have fin : ∀ l : List Bool, l.length = N → (∀ j, j < x → l.getD j false = star (hasB t r) j) → (∀ j, x < j → l.getD j false = false) → (l.getD x false = true ↔ ∃ q ∈ ps, star (hasB t r) (x - q) = true) → ∀ i : Nat, (i < ps.length → l.getD x false = true) → ∃ l', Ev (fun k => spec_l4Star.l1 k N l (ps.map fun y : Nat => (y : Int)) x (i : Nat) t r) l' ∧ Q l' := by
    intro l h1 h2 h3 h4 i hi
    obtain ⟨l', k1, k2⟩ := hend l h1 h2 h3 h4
    refine ⟨l', Ev.step (fun k => ?_) k1, k2⟩
    simp only [spec_l4Star.l1, List.length_map]
    by_cases c : i < ps.length
    · rw [if_pos (by omega), if_pos (by omega), if_pos (by omega), rdOf_nat, hi c, if_pos rfl]
    · rw [if_neg (by omega)]
  induction d with
  | zero =>
    intro i l hi h1 h2 h3 h4 h5
    refine fin l h1 h2 h3 ⟨h4, ?_⟩ i (fun h => by omega)
    rintro ⟨q, q1, q2⟩
    cases c : l.getD x false with
    | true => rfl
    | false =>
      obtain ⟨j, hj, rfl⟩ := List.getElem_of_mem q1
      rw [h5 c j (by omega) hj] at q2; cases q2
  | succ d ih =>
    intro i l hi h1 h2 h3 h4 h5
    cases c : l.getD x false with
    | true => exact fin l h1 h2 h3 ⟨h4, fun _ => c⟩ i (fun _ => c)
    | false =>
      have hil : i < ps.length := by omega
      have hfew := hps.few
      obtain ⟨a1, a2, a3⟩ := hps.all ps[i] (List.getElem_mem hil)
      have hw : wrap64 ((x : Int) - ((ps[i] : Nat) : Int)) = ((x - ps[i] : Nat) : Int) := wrs (by omega) (by omega)
      have hv := h2 (x - ps[i]) (by omega)
      obtain ⟨l', k1, k2⟩ := ih (i + 1) (l.set x (star (hasB t r) (x - ps[i]))) (by omega) (by rw [List.length_set, h1]) (fun j hj => by rw [getD_set_ne _ _ (by omega)]; exact h2 j hj) (fun j hj => by rw [getD_set_ne _ _ (by omega)]; exact h3 j hj)
        (by rw [getD_set_self _ _ _ (by omega)]; intro h; exact ⟨ps[i], List.getElem_mem hil, h⟩)
        (by
          rw [getD_set_self _ _ _ (by omega)]
          intro h j hj hjl
          rcases Nat.lt_or_ge j i with e | e
          · exact h5 c j e hjl
          · obtain rfl : j = i := by omega
            exact h)
      refine ⟨l', Ev.step (fun k => ?_) k1, k2⟩
      simp only [spec_l4Star.l1, List.length_map]
      rw [if_pos (by omega), if_pos (by omega), if_pos (by omega), rdOf_nat, c, if_neg (by simp), if_pos (by omega), rd_cast ps i hil, hw, if_pos (by omega), if_pos (by omega), rdOf_nat, hv, wr1 (by omega), Int.toNat_natCast]
theorem star4_l0 {t r : List Bool} (h : Good t r) (N : Nat) (hN : N ≤ 1000000) (d : Nat) : ∀ (x : Nat) (l : List Bool) (ps : List Nat), x + d = N → l.length = N → (∀ j, j < x → l.getD j false = star (hasB t r) j) → (∀ j, x ≤ j → l.getD j false = false) → Parts (hasB t r) ps x →
    ∃ l', Ev (fun k => spec_l4Star.l0 k N l (ps.map fun y : Nat => (y : Int)) (x : Nat) t r) l' ∧ Tells l' (star (hasB t r)) N := by
  induction d with
  | zero =>
    intro x l ps hx h1 h2 h3 h4
    refine ⟨l, Ev.end fun k => ?_, h1, fun j hj => h2 j (by omega)⟩
    simp only [spec_l4Star.l0]
    rw [if_neg (by omega)]
  | succ d ih =>
    intro x l ps hx h1 h2 h3 h4
    have hfew := h4.few
    have go := star4_l1 (t := t) (r := r) N x hN (by omega) ps h4 (fun l' => Tells l' (star (hasB t r)) N) ?_ ps.length 0 l (by omega) h1 h2 (fun j hj => h3 j (by omega)) (by rw [h3 x (Nat.le_refl _)]; intro e; cases e) (fun _ j hj => by omega)
    · obtain ⟨l', k1, k2⟩ := go
      refine ⟨l', Ev.step (fun k => ?_) k1, k2⟩
      simp only [spec_l4Star.l0]
      rw [if_pos (by omega)]
      rfl
    · intro m g1 g2 g3 g4
      rcases Nat.eq_zero_or_pos x with e0 | e0
      · subst e0
        obtain ⟨l', k1, k2⟩ := ih 1 (m.set 0 true) ps (by omega) (by rw [List.length_set, g1]) (fun j hj => by
            obtain rfl : j = 0 := by omega
            rw [getD_set_self _ _ _ (by omega)]; exact (star_zero _).symm) (fun j hj => by rw [getD_set_ne _ _ (by omega)]; exact g3 j (by omega))
          ⟨fun q hq => by have := h4.all q hq; omega, fun y y1 y2 => by omega, by omega⟩
        refine ⟨l', Ev.step (fun k => ?_) k1, k2⟩
        simp only [spec_l4Star.j2]
        rw [if_pos (by omega), if_pos (by omega), wr1 (by omega)]
        rfl
      · have hps := parts_star h4 e0
        cases c : m.getD x false with
        | true =>
          have hs : star (hasB t r) x = true := hps.2 (.inl (g4.1 c))
          obtain ⟨l', k1, k2⟩ := ih (x + 1) m ps (by omega) g1 (fun j hj => by
              rcases Nat.lt_or_ge j x with e | e
              · exact g2 j e
              · obtain rfl : j = x := by omega
                rw [c, hs]) (fun j hj => g3 j (by omega))
            ⟨fun q hq => by have := h4.all q hq; exact ⟨this.1, by omega, this.2.2⟩, fun y y1 y2 y3 => by
              rcases Nat.lt_or_ge y x with e | e
              · exact h4.some y y1 e y3
              · obtain rfl : y = x := by omega
                obtain ⟨q, q1, q2⟩ := g4.1 c
                exact ⟨q, q1, by have := h4.all q q1; omega, q2⟩, by omega⟩
          refine ⟨l', Ev.step (fun k => ?_) k1, k2⟩
          simp only [spec_l4Star.j2]
          rw [if_neg (by omega), if_pos (by omega), if_pos (by omega), rdOf_nat, c, if_pos rfl, wr1 (by omega)]
        | false =>
          have hno : ¬ ∃ q ∈ ps, star (hasB t r) (x - q) = true := fun k => by rw [g4.2 k] at c; cases c
          cases cf : hasB t r x with
          | true =>
            have hs : star (hasB t r) x = true := hps.2 (.inr cf)
            obtain ⟨l', k1, k2⟩ := ih (x + 1) (m.set x true) (ps ++ [x]) (by omega) (by rw [List.length_set, g1]) (fun j hj => by
                rcases Nat.lt_or_ge j x with e | e
                · rw [getD_set_ne _ _ (by omega)]; exact g2 j e
                · obtain rfl : j = x := by omega
                  rw [getD_set_self _ _ _ (by omega), hs]) (fun j hj => by rw [getD_set_ne _ _ (by omega)]; exact g3 j (by omega))
              ⟨fun q hq => by
                rcases List.mem_append.1 hq with k | k
                · have := h4.all q k; exact ⟨this.1, by omega, this.2.2⟩
                · obtain rfl : q = x := by simpa using k
                  exact ⟨e0, by omega, cf⟩, fun y y1 y2 y3 => by
                rcases Nat.lt_or_ge y x with e | e
                · obtain ⟨q, q1, q2⟩ := h4.some y y1 e y3
                  exact ⟨q, List.mem_append_left _ q1, q2⟩
                · obtain rfl : y = x := by omega
                  exact ⟨y, List.mem_append_right _ (by simp), Nat.le_refl _, by rw [Nat.sub_self]; exact star_zero _⟩, by rw [List.length_append]; simp; omega⟩
            refine ⟨l', Ev.step (fun k => ?_) k1, k2⟩
            simp only [spec_l4Star.j2]
            rw [if_neg (by omega), if_pos (by omega), if_pos (by omega), rdOf_nat, c, if_neg (by simp), l1_has h x (by omega), cf]
            simp only [Option.bind_some, if_true, List.length_map]
            rw [if_pos (by omega), wr1 (by omega), Int.toNat_natCast, List.map_append]
            rfl
          | false =>
            have hs : star (hasB t r) x = false := by
              cases e : star (hasB t r) x with
              | false => rfl
              | true =>
                rcases hps.1 e with k | k
                · exact absurd k hno
                · rw [cf] at k; cases k
            obtain ⟨l', k1, k2⟩ := ih (x + 1) m ps (by omega) g1 (fun j hj => by
                rcases Nat.lt_or_ge j x with e | e
                · exact g2 j e
                · obtain rfl : j = x := by omega
                  rw [c, hs]) (fun j hj => g3 j (by omega))
              ⟨fun q hq => by have := h4.all q hq; exact ⟨this.1, by omega, this.2.2⟩, (fun y y1 y2 y3 => by
                rcases Nat.lt_or_ge y x with e | e
                · exact h4.some y y1 e y3
                · obtain rfl : y = x := by omega
                  rw [cf] at y3; cases y3), by omega⟩
            refine ⟨l', Ev.step (fun k => ?_) k1, k2⟩
            simp only [spec_l4Star.j2]
            rw [if_neg (by omega), if_pos (by omega), if_pos (by omega), rdOf_nat, c, if_neg (by simp), l1_has h x (by omega), cf]
            simp only [Option.bind_some, Bool.false_eq_true, if_false]
            rw [wr1 (by omega)]
theorem star4_ev {t r : List Bool} (h : Good t r) (N : Nat) (hN : N ≤ 1000000) : ∃ l, Ev (fun k => spec_l4Star.f k t r N) l ∧ Tells l (star (hasB t r)) N := by
  obtain ⟨l, k1, k2⟩ := star4_l0 h N hN N 0 (List.replicate N false) [] (by omega) (by simp) (fun j hj => by omega) (fun j _ => by
      simp only [List.getD, List.getElem?_replicate]
      split <;> rfl) ⟨(fun q hq => by cases hq), (fun y y1 y2 => by omega), by simp⟩
  refine ⟨l, ?_, k2⟩
  unfold spec_l4Star.f
  refine Ev.eq (funext fun k => if_pos (by omega)) (Ev.eq (funext fun k => if_pos (by omega)) ?_)
  rw [Int.toNat_natCast]
  exact k1

/-- The star, with what is told of 0. -/
def starZ (f : Nat → Bool) (z : Bool) (n : Nat) : Bool := if n = 0 then z else star f n
theorem starZ_true (f : Nat → Bool) (n : Nat) : starZ f true n = star f n := by
  unfold starZ
  split
  · subst_vars; exact (star_zero f).symm
  · rfl
theorem starZ_pos {f : Nat → Bool} {z : Bool} {n : Nat} (h : 1 ≤ n) : starZ f z n = star f n := by unfold starZ; rw [if_neg (by omega)]
theorem starred_p {t r l : List Bool} {z : List Bool → List Bool → Option Bool} {b : Bool} (hz : z t r = some b) {N : Nat} (hl : Tells l (star (hasB t r)) N) (n : Nat) (hn : n < N) : impl_starred.p z t r l n = some (starZ (hasB t r) b n) := by
  unfold impl_starred.p starZ
  by_cases c : n = 0
  · subst c
    rw [if_pos (show ((0 : Nat) : Int) = 0 from rfl), hz]
    rfl
  · rw [if_neg (by omega), if_neg c, if_pos (by omega), if_pos (by rw [hl.len]; omega), rdOf_nat, hl.get n hn]
theorem starred_ev {s : ByteArray} {t r : List Bool} (h : IsSmall s t r) {z : List Bool → List Bool → Option Bool} {b : Bool} (hz : z t r = some b) : ∃ x, Ev (fun k => impl_starred.f k s z) x ∧ Told (starZ (hasB t r) b) x := by
  have t1 := h.tl
  have r1 := h.rl
  obtain ⟨m, m1, m2, _⟩ := least_both h.good (by omega)
  have main : ∀ q : Nat, 1 ≤ q → q ≤ 16 → (∀ n, 1000 ≤ n → starZ (hasB t r) b (n + q) = starZ (hasB t r) b n) → ∃ x, Ev (fun k => impl_starred.g k t r z (q : Int)) x ∧ Told (starZ (hasB t r) b) x := by
    intro q q1 q2 hper
    obtain ⟨l, l1, l2⟩ := star_ev h.good (1000 + q) (by omega)
    obtain ⟨x, x1, x2⟩ := made_ev (f := starZ (hasB t r) b) (from_ := 1000) (size := q) q1 ⟨by omega, by omega⟩ hper (P := fun _ => impl_starred.p z t r l) (fun n hn => by
      have := starred_p hz l2 n hn
      exact Ev.const fun _ => this)
    refine ⟨x, ?_, x2⟩
    unfold impl_starred.g
    have e : (1000 + (q : Int)) = ((1000 + q : Nat) : Int) := by omega
    rw [e]
    exact Ev.bind l1 x1
  rcases m1.cases with ⟨c1, c2⟩ | ⟨c1, c2, c3, c4⟩
  · subst c1
    obtain ⟨x, x1, x2⟩ := main 1 (by omega) (by omega) (fun n hn => by
      rw [starZ_pos (by omega), starZ_pos (by omega), star_none c2, star_none c2, decide_eq_false (by omega), decide_eq_false (by omega)])
    refine ⟨x, ?_, x2⟩
    unfold impl_starred.f
    refine Ev.bind h.impl ?_
    simp only [if_true]
    refine Ev.bind m2 (Ev.eq (funext fun k => if_neg (by omega)) ?_)
    exact x1
  · obtain ⟨x, x1, x2⟩ := main m c1 (by omega) (fun n hn => by
      rw [starZ_pos (by omega), starZ_pos (by omega)]; exact star_period h.good.pos t1 r1 c1 c4 c3 c2 hn)
    refine ⟨x, ?_, x2⟩
    unfold impl_starred.f
    refine Ev.bind h.impl ?_
    simp only [if_true]
    refine Ev.bind m2 (Ev.eq (funext fun k => if_pos (by omega)) (Ev.eq (funext fun k => if_pos (by omega)) ?_))
    exact x1
theorem canon_one : Canon [true] [false] := ⟨by decide, fun d h1 h2 => by simp at h2; omega, fun m hm => by
  obtain rfl : m = 0 := by simpa using hm.symm
  decide⟩
theorem has_one (n : Nat) : hasB [true] [false] n = decide (n = 0) := by
  rcases Nat.eq_zero_or_pos n with h | h
  · subst h; rfl
  · rw [hasB_ge (by show 1 ≤ n; omega), decide_eq_false (by omega)]
    simp [Nat.mod_one]
theorem text_one : text [true] [false] = (⟨#[49, 40, 48, 41]⟩ : ByteArray) := rfl
theorem told_one : Told (fun n => decide (n = 0)) ((⟨#[49, 40, 48, 41]⟩ : ByteArray), true) := by
  rw [← text_one]
  exact Told.of canon_one ⟨by decide, by decide, by decide⟩ has_one
theorem starOf_both {s : ByteArray} {t r : List Bool} (h : IsSmall s t r) : ∃ x, Ev (fun k => impl_StarOf.f k s) x ∧ Ev (fun k => spec_StarOf.f k s) x ∧ Told (star (hasB t r)) x := by
  obtain ⟨x, x1, x2⟩ := starred_ev h (z := fun _ _ => some true) (b := true) rfl
  have x3 : Told (star (hasB t r)) x := x2.congr (starZ_true _)
  refine ⟨x, x1, ?_, x3⟩
  have t1 := h.tl
  have r1 := h.rl
  obtain ⟨m, m1, _, m2⟩ := least_both h.good (by omega)
  unfold spec_StarOf.f
  refine Ev.bind h.spec ?_
  simp only [if_true]
  refine Ev.bind (f := fun k (b : ByteArray × Bool) => some (b.1, b.2)) (a := x) ?_ (Ev.now x)
  unfold spec_l4Whole.f
  rcases m1.cases with ⟨c1, c2⟩ | ⟨c1, c2, c3, c4⟩
  · subst c1
    refine Ev.bind m2 (Ev.eq (funext fun k => if_pos rfl) ?_)
    rw [x3.unique (told_one.congr fun n => (star_none c2 n).symm)]
    exact Ev.now _
  · refine Ev.bind m2 (Ev.eq (funext fun k => if_neg (by omega)) ?_)
    obtain ⟨l, l1, l2⟩ := star4_ev h.good (2400 + m) (by omega)
    obtain ⟨y, y1, y2⟩ := fill_tells l2 (m := 2400) (by omega) (by omega) (fun n hn => by
      rw [Nat.add_sub_cancel_left]; exact star_period h.good.pos t1 r1 c1 c4 c3 c2 (by omega))
    rw [wr (x := 2400 + (m : Int)) (by omega) (by omega), show (2400 + (m : Int)) = ((2400 + m : Nat) : Int) from by omega, x3.unique y2]
    exact Ev.bind l1 (Ev.bind y1 (Ev.now y))

abbrev empt : ByteArray × Bool := ((⟨#[]⟩ : ByteArray), false)

theorem tidied_self {t r : List Bool} (h : Canon t r) (g : Good t r) : Tidied t r t r := by
  obtain ⟨t', r', hT⟩ := tidied g
  obtain ⟨rfl, rfl⟩ := canon_unique hT.canon h hT.same
  exact hT
theorem small_dec {s : ByteArray} {t0 r0 t r : List Bool} (h : IsSet s t0 r0) (hT : Tidied t0 r0 t r) : NoSmall s ∨ IsSmall s t r := by
  have hi : Ev (fun k => impl_small.f k s) (t, r, decide ((t.length : Int) ≤ 8) && decide ((r.length : Int) ≤ 8)) := by
    unfold impl_small.f impl_tidied.f
    rw [h.impl]; simp only [Option.bind_some, if_true]
    refine Ev.bind (a := (t, r, true)) (Ev.bind hT.impl (Ev.now _)) (Ev.const fun k => ?_)
    rw [if_pos rfl]
    by_cases c : (t.length : Int) ≤ 8
    · rw [if_pos c, decide_eq_true c]; rfl
    · rw [if_neg c, decide_eq_false c]; rfl
  have hs : Ev (fun k => spec_l4Small.f k s) (t, r, decide ((t.length : Int) ≤ 8) && decide ((r.length : Int) ≤ 8)) := by
    unfold spec_l4Small.f
    refine Ev.bind h.spec ?_
    simp only [if_true]
    refine Ev.bind hT.spec (Ev.const fun k => ?_)
    by_cases c : (t.length : Int) ≤ 8
    · rw [if_pos c, decide_eq_true c]; rfl
    · rw [if_neg c, decide_eq_false c]; rfl
  by_cases c : t.length ≤ 8 ∧ r.length ≤ 8
  · right
    rw [decide_eq_true (by omega), decide_eq_true (by omega)] at hi hs
    exact ⟨⟨t0, r0, h, hT⟩, hT.good, c.1, c.2, hi, hs⟩
  · left
    have : (decide ((t.length : Int) ≤ 8) && decide ((r.length : Int) ≤ 8)) = false := by
      by_cases c1 : t.length ≤ 8
      · rw [decide_eq_false (show ¬ (r.length : Int) ≤ 8 by omega), Bool.and_false]
      · rw [decide_eq_false (show ¬ (t.length : Int) ≤ 8 by omega), Bool.false_and]
    rw [this] at hi hs
    exact ⟨⟨t, r, hi⟩, ⟨t, r, hs⟩⟩
theorem text_small {t r : List Bool} (h : Canon t r) (g : Good t r) : NoSmall (text t r) ∨ IsSmall (text t r) t r := small_dec (text_isSet g) (tidied_self h g)
theorem setHas4 {s : ByteArray} {t r : List Bool} (h : IsSet s t r) (n : Nat) (hn : n ≤ 1073741824) : impl_SetHas.f s n = some (hasB t r n) := by
  unfold impl_SetHas.f
  rw [h.impl]; simp only [Option.bind_some, if_true]
  rw [set_has h.good n (by omega)]; rfl
theorem setHas4_no {s : ByteArray} (h : NoSet s) (n : Int) : impl_SetHas.f s n = some false := by
  obtain ⟨⟨a, b, e⟩, _⟩ := h
  unfold impl_SetHas.f
  rw [e]; simp
theorem star_fun {ta ra t r : List Bool} (e : ∀ n, hasB t r n = star (hasB ta ra) n) : hasB t r = star (hasB ta ra) := funext e
/-- The least set: told, or nothing is told. -/
theorem solveLeast_both {s u : ByteArray} {ta ra tb rb : List Bool} (h : IsSmall s ta ra) (h2 : IsSmall u tb rb) : ∃ y, Ev (fun k => impl_SolveLeast.f k s u) y ∧ Ev (fun k => spec_SolveLeast.f k s u) y ∧ (y = empt ∨ Told (lst (hasB ta ra) (hasB tb rb)) y) := by
  obtain ⟨x, x1, x2, x3⟩ := starOf_both h
  have mk : ∀ y, (x.2 = false → y = empt) → (x.2 = true → Ev (fun k => impl_SumOf.f k x.1 u) y ∧ Ev (fun k => spec_SumOf.f k x.1 u) y) → Ev (fun k => impl_SolveLeast.f k s u) y ∧ Ev (fun k => spec_SolveLeast.f k s u) y := by
    intro y y1 y2
    constructor
    · unfold impl_SolveLeast.f
      refine Ev.bind (two_yes h h2) ?_
      simp only [if_true]
      refine Ev.bind x1 ?_
      cases c : x.2 with
      | false => simp only [Bool.false_eq_true, if_false]; rw [y1 c]; exact Ev.now _
      | true => simp only [if_true]; exact Ev.bind (y2 c).1 (Ev.now y)
    · unfold spec_SolveLeast.f
      refine Ev.bind h.spec (Ev.bind h2.spec ?_)
      simp only [if_true]
      refine Ev.step (f := fun k => (spec_StarOf.f k s).bind fun b => if b.2 = true then (spec_SumOf.f k b.1 u).bind fun c => some (c.1, c.2) else some empt) (fun k => by simp only [spec_SolveLeast.j0, Bool.not_true, Bool.false_eq_true, if_false]) ?_
      refine Ev.bind x2 ?_
      cases c : x.2 with
      | false => simp only [Bool.false_eq_true, if_false]; rw [y1 c]; exact Ev.now _
      | true => simp only [if_true]; exact Ev.bind (y2 c).2 (Ev.now y)
  cases c : x.2 with
  | false =>
    obtain ⟨a, b⟩ := mk empt (fun _ => rfl) (fun h => by rw [c] at h; cases h)
    exact ⟨empt, a, b, .inl rfl⟩
  | true =>
    obtain ⟨t, r, g1, g2, g3, rfl⟩ := x3.yes c
    rcases text_small g1 g2 with k | k
    · obtain ⟨e1, e2⟩ := sumOf_no (.inl k) (.inr ⟨tb, rb, h2⟩) (.inl k)
      obtain ⟨a, b⟩ := mk empt (fun h => by cases h) (fun _ => ⟨e1, e2⟩)
      exact ⟨empt, a, b, .inl rfl⟩
    · obtain ⟨y, y1, y2, y3⟩ := sumOf_both k h2
      obtain ⟨a, b⟩ := mk y (fun h => by cases h) (fun _ => ⟨y1, y2⟩)
      rw [star_fun g3] at y3
      exact ⟨y, a, b, .inr y3⟩
theorem two_spec_no {s u : ByteArray} (hs : NoSmall s ∨ ∃ t r, IsSmall s t r) (hu : NoSmall u ∨ ∃ t r, IsSmall u t r) (h : NoSmall s ∨ NoSmall u) : ∃ a b o c d o', Ev (fun k => spec_l4Small.f k s) (a, b, o) ∧ Ev (fun k => spec_l4Small.f k u) (c, d, o') ∧ (o = false ∨ o' = false) := by
  have any : ∀ w : ByteArray, (NoSmall w ∨ ∃ t r, IsSmall w t r) → ∃ c d ok, Ev (fun k => spec_l4Small.f k w) (c, d, ok) ∧ (NoSmall w → ok = false) := by
    rintro w (k | ⟨t, r, k⟩)
    · obtain ⟨_, ⟨c, d, e2⟩⟩ := k
      exact ⟨c, d, false, e2, fun _ => rfl⟩
    · refine ⟨t, r, true, k.spec, fun k2 => ?_⟩
      obtain ⟨_, ⟨a, b, e1⟩⟩ := k2
      have := Ev.unique k.spec e1
      simp only [Prod.mk.injEq] at this
      exact absurd this.2.2 (by simp)
  obtain ⟨a, b, o, g1, g2⟩ := any s hs
  obtain ⟨c, d, o', k1, k2⟩ := any u hu
  exact ⟨a, b, o, c, d, o', g1, k1, h.elim (fun k => .inl (g2 k)) (fun k => .inr (k2 k))⟩
theorem solveLeast_no {s u : ByteArray} (hs : NoSmall s ∨ ∃ t r, IsSmall s t r) (hu : NoSmall u ∨ ∃ t r, IsSmall u t r) (h : NoSmall s ∨ NoSmall u) : Ev (fun k => impl_SolveLeast.f k s u) empt ∧ Ev (fun k => spec_SolveLeast.f k s u) empt := by
  obtain ⟨a, b, c, d, e⟩ := two_no hs hu h
  obtain ⟨a2, b2, o, c2, d2, o', g1, g2, g3⟩ := two_spec_no hs hu h
  constructor
  · unfold impl_SolveLeast.f
    refine Ev.bind e ?_
    simp only [Bool.false_eq_true, if_false]
    exact Ev.now _
  · unfold spec_SolveLeast.f
    refine Ev.bind g1 (Ev.bind g2 ?_)
    have fin : ∀ x : Bool, x = true → Ev (fun k => spec_SolveLeast.j0 k s u x) empt := fun x hx => Ev.end fun k => by simp only [spec_SolveLeast.j0]; rw [if_pos hx]
    cases o with
    | false => simp only [Bool.false_eq_true, if_false]; exact fin _ rfl
    | true => simp only [if_true]; exact fin _ (by rcases g3 with h | h; cases h; rw [h]; rfl)
theorem canon_all : Canon [] [true] := ⟨by decide, fun d h1 h2 => by simp at h2; omega, fun m hm => by cases hm⟩
theorem has_all (n : Nat) : hasB [] [true] n = true := by
  rw [hasB_ge (by simp)]; simp [Nat.mod_one]
theorem text_all : text [] [true] = (⟨#[40, 49, 41]⟩ : ByteArray) := rfl
theorem solveMost_both {s u : ByteArray} {ta ra tb rb : List Bool} (h : IsSmall s ta ra) (h2 : IsSmall u tb rb) {y : ByteArray × Bool} (y1 : Ev (fun k => impl_SolveLeast.f k s u) y) (y2 : Ev (fun k => spec_SolveLeast.f k s u) y) :
    Ev (fun k => impl_SolveMost.f k s u) (if hasB ta ra 0 = true then ((⟨#[40, 49, 41]⟩ : ByteArray), true) else y) ∧ Ev (fun k => spec_SolveMost.f k s u) (if hasB ta ra 0 = true then ((⟨#[40, 49, 41]⟩ : ByteArray), true) else y) := by
  have e1 := set_has h.good 0 (by omega)
  have e2 := l1_has h.good 0 (by omega)
  constructor
  · unfold impl_SolveMost.f
    refine Ev.bind (two_yes h h2) ?_
    simp only [if_true]
    refine Ev.bind (a := hasB ta ra 0) (Ev.const fun _ => e1) ?_
    cases c : hasB ta ra 0 with
    | true => simp only [if_true]; exact Ev.now _
    | false => simp only [Bool.false_eq_true, if_false]; exact Ev.bind y1 (Ev.now y)
  · unfold spec_SolveMost.f
    refine Ev.bind h.spec (Ev.bind h2.spec ?_)
    simp only [if_true]
    refine Ev.step (f := fun k => (spec_l1Has.f ta ra 0).bind fun t => if t = true then some ((⟨#[40, 49, 41]⟩ : ByteArray), true) else (spec_SolveLeast.f k s u).bind fun b => some (b.1, b.2)) (fun k => by simp only [spec_SolveMost.j0, Bool.not_true, Bool.false_eq_true, if_false]) ?_
    refine Ev.bind (a := hasB ta ra 0) (Ev.const fun _ => e2) ?_
    cases c : hasB ta ra 0 with
    | true => simp only [if_true]; exact Ev.now _
    | false => simp only [Bool.false_eq_true, if_false]; exact Ev.bind y2 (Ev.now y)
theorem solveMost_no {s u : ByteArray} (hs : NoSmall s ∨ ∃ t r, IsSmall s t r) (hu : NoSmall u ∨ ∃ t r, IsSmall u t r) (h : NoSmall s ∨ NoSmall u) : Ev (fun k => impl_SolveMost.f k s u) empt ∧ Ev (fun k => spec_SolveMost.f k s u) empt := by
  obtain ⟨a, b, c, d, e⟩ := two_no hs hu h
  obtain ⟨a2, b2, o, c2, d2, o', g1, g2, g3⟩ := two_spec_no hs hu h
  constructor
  · unfold impl_SolveMost.f
    refine Ev.bind e ?_
    simp only [Bool.false_eq_true, if_false]
    exact Ev.now _
  · unfold spec_SolveMost.f
    refine Ev.bind g1 (Ev.bind g2 ?_)
    have fin : ∀ x : Bool, x = true → Ev (fun k => spec_SolveMost.j0 k s u x a2 b2) empt := fun x hx => Ev.end fun k => by simp only [spec_SolveMost.j0]; rw [if_pos hx]
    cases o with
    | false => simp only [Bool.false_eq_true, if_false]; exact fin _ rfl
    | true => simp only [if_true]; exact fin _ (by rcases g3 with h | h; cases h; rw [h]; rfl)


theorem all_l0 {l : List Bool} {f : Nat → Bool} {m : Nat} (h : Tells l f m) (hm : m ≤ 1000000) (d : Nat) : ∀ i, i + d = m → ∃ b : Bool, Ev (fun k => impl_all.l0 k l m (i : Nat)) b ∧ (b = true ↔ ∀ n, i ≤ n → n < m → f n = true) := by
  have hl := h.len
  induction d with
  | zero =>
    intro i hi
    refine ⟨true, Ev.end fun k => ?_, fun _ n a b => by omega, fun _ => rfl⟩
    simp only [impl_all.l0]
    rw [if_neg (by omega)]
  | succ d ih =>
    intro i hi
    have e := h.get i (by omega)
    by_cases c : f i = true
    · obtain ⟨b, k1, k2⟩ := ih (i + 1) (by omega)
      refine ⟨b, Ev.step (fun k => ?_) k1, k2.trans ⟨fun g n a b => ?_, fun g n a b => g n (by omega) b⟩⟩
      · simp only [impl_all.l0]
        rw [if_pos (by omega), if_pos (by omega), if_pos (by omega), rdOf_nat, if_pos (by rw [e]; exact c), wr1 (by omega)]
      · rcases Nat.lt_or_ge i n with q | q
        · exact g n q b
        · obtain rfl : n = i := by omega
          exact c
    · refine ⟨false, Ev.end fun k => ?_, fun g => absurd g (by simp), fun g => absurd (g i (Nat.le_refl _) (by omega)) c⟩
      simp only [impl_all.l0]
      rw [if_pos (by omega), if_pos (by omega), if_pos (by omega), rdOf_nat, if_neg (by rw [e]; exact c)]
theorem one_l0 {l : List Bool} {f : Nat → Bool} (h : Tells l f 500) (d : Nat) : ∀ i, i + d = 500 → ∃ b : Bool, Ev (fun k => spec_SolveOne.l0 k l (i : Nat)) b ∧ (b = true ↔ ∀ n, i ≤ n → n < 500 → f n = true) := by
  have hl := h.len
  induction d with
  | zero =>
    intro i hi
    refine ⟨true, Ev.end fun k => ?_, fun _ n a b => by omega, fun _ => rfl⟩
    simp only [spec_SolveOne.l0]
    rw [if_neg (by omega)]
  | succ d ih =>
    intro i hi
    have e := h.get i (by omega)
    by_cases c : f i = true
    · obtain ⟨b, k1, k2⟩ := ih (i + 1) (by omega)
      refine ⟨b, Ev.step (fun k => ?_) k1, k2.trans ⟨fun g n a b => ?_, fun g n a b => g n (by omega) b⟩⟩
      · simp only [spec_SolveOne.l0]
        rw [if_pos (by omega), if_pos (by omega), if_pos (by omega), rdOf_nat, if_pos (by rw [e]; exact c), wr1 (by omega)]
      · rcases Nat.lt_or_ge i n with q | q
        · exact g n q b
        · obtain rfl : n = i := by omega
          exact c
    · refine ⟨false, Ev.end fun k => ?_, fun g => absurd g (by simp), fun g => absurd (g i (Nat.le_refl _) (by omega)) c⟩
      simp only [spec_SolveOne.l0]
      rw [if_pos (by omega), if_pos (by omega), if_pos (by omega), rdOf_nat, if_neg (by rw [e]; exact c)]
theorem solveOne_yes {s u : ByteArray} {ta ra tb rb : List Bool} (h : IsSmall s ta ra) (h2 : IsSmall u tb rb) : ∃ b : Bool, Ev (fun k => impl_SolveOne.f k s u) b ∧ Ev (fun k => spec_SolveOne.f k s u) b := by
  have e0 := set_has h.good 0 (by omega)
  have e1 := l1_has h.good 0 (by omega)
  have hp1 : ∀ x : Option Bool, Ev (fun k => spec_l4Small.f k s) (ta, ra, true) := fun _ => h.spec
  by_cases c : hasB ta ra 0 = true
  · obtain ⟨l, s1, s2⟩ := solved_ev h.good h2.good 1000 (by omega)
    obtain ⟨l', s3, s4⟩ := least_ev h.good h2.good 500 (by omega)
    obtain ⟨b1, k1, k2⟩ := all_l0 s2 (by omega) 1000 0 (by omega)
    obtain ⟨b2, j1, j2⟩ := one_l0 s4 500 0 (by omega)
    have htl := h.tl
    have e : b1 = b2 := by
      rw [Bool.eq_iff_iff, k2, j2]
      constructor
      · exact fun hx n a b => hx n a (by omega)
      · exact fun hx n _ _ => least_far h.good.pos h2.good.pos h.rl h2.rl h.tl h2.tl (fun n hn => hx n (Nat.zero_le _) hn) n
    subst e
    refine ⟨b1, ?_, ?_⟩
    · unfold impl_SolveOne.f
      refine Ev.bind (two_yes h h2) ?_
      simp only [if_true, show impl_set_has.f ta ra 0 = some (hasB ta ra 0) from e0, Option.bind_some, c]
      refine Ev.bind s1 (Ev.bind ?_ (Ev.now _))
      unfold impl_all.f
      rw [s2.len]
      exact k1
    · unfold spec_SolveOne.f
      refine Ev.bind h.spec (Ev.bind h2.spec ?_)
      simp only [if_true]
      refine Ev.step (f := fun k => (spec_l8Least.f k ta ra tb rb 500).bind fun t630 => (spec_SolveOne.l0 k t630 0)) (fun k => by simp only [spec_SolveOne.j0, Bool.not_true, Bool.false_eq_true, if_false, show spec_l1Has.f ta ra 0 = some (hasB ta ra 0) from e1, Option.bind_some, c, if_true]) ?_
      exact Ev.bind s3 j1
  · refine ⟨true, ?_, ?_⟩
    · unfold impl_SolveOne.f
      refine Ev.bind (two_yes h h2) ?_
      simp only [if_true, show impl_set_has.f ta ra 0 = some (hasB ta ra 0) from e0, Option.bind_some, c]
      exact Ev.now _
    · unfold spec_SolveOne.f
      refine Ev.bind h.spec (Ev.bind h2.spec ?_)
      simp only [if_true]
      exact Ev.end fun k => by simp only [spec_SolveOne.j0, Bool.not_true, Bool.false_eq_true, if_false, show spec_l1Has.f ta ra 0 = some (hasB ta ra 0) from e1, Option.bind_some, c]
theorem spec_ok (w : ByteArray) : (NoSmall w ∨ ∃ t r, IsSmall w t r) → ∃ a b ok, Ev (fun k => spec_l4Small.f k w) (a, b, ok) ∧ (ok = true → ¬ NoSmall w) := by
  rintro (hw | ⟨t, r, hw⟩)
  · obtain ⟨a, b, h⟩ := hw.spec
    exact ⟨a, b, false, h, fun h => absurd h (by simp)⟩
  · refine ⟨t, r, true, hw.spec, fun _ hn => ?_⟩
    obtain ⟨a, b, h⟩ := hn.spec
    have := Ev.unique h hw.spec
    simp at this
theorem solveOne_no {s u : ByteArray} (hs : NoSmall s ∨ ∃ t r, IsSmall s t r) (hu : NoSmall u ∨ ∃ t r, IsSmall u t r) (h : NoSmall s ∨ NoSmall u) : Ev (fun k => impl_SolveOne.f k s u) false ∧ Ev (fun k => spec_SolveOne.f k s u) false := by
  have s0 : ∀ a b c d, Ev (fun k => spec_SolveOne.j0 k true a b c d) false := fun a b c d => Ev.end fun k => by simp only [spec_SolveOne.j0, if_true]
  constructor
  · obtain ⟨a, b, c, d, h1⟩ := two_no hs hu h
    unfold impl_SolveOne.f
    refine Ev.bind h1 ?_
    simp only [Bool.false_eq_true, if_false]
    exact Ev.now _
  · obtain ⟨a, b, o1, g1, n1⟩ := spec_ok s hs
    obtain ⟨c, d, o2, g2, n2⟩ := spec_ok u hu
    unfold spec_SolveOne.f
    refine Ev.bind g1 (Ev.bind g2 ?_)
    cases o1 with
    | false => simp only [Bool.false_eq_true, if_false]; exact s0 _ _ _ _
    | true =>
      cases o2 with
      | false => simp only [if_true, Bool.not_false]; exact s0 _ _ _ _
      | true => exact absurd h (fun h => by rcases h with h | h; exact n1 rfl h; exact n2 rfl h)

end Go.Proofs.Ytpkpgdlbgcjloaa.Q

namespace Go.Proofs.Ytpkpgdlbgcjloaa.Q
open Go.RowKit Go.Proofs.YtpkpgdlbgcjloaaW.PrintWords Go.Proofs.YtpkpgdlbgcjloaaW.PrintLast Go.Proofs.YtpkpgdlbgcjloaaW.PrintMore
set_option linter.unusedVariables false
set_option linter.unusedSimpArgs false
structure Bs (bs : List Int) : Prop where
  len : bs.length ≤ 2000
  byte : ∀ x ∈ bs, 0 ≤ x ∧ x ≤ 255
theorem byte_wf {x : Int} (h : (Lit.int .u8 x).wf = true) : 0 ≤ x ∧ x ≤ 255 := by
  have h1 : IntKind.u8.min = 0 := rfl
  have h2 : IntKind.u8.max = 255 := rfl
  simp [Lit.wf] at h
  omega
theorem open_ev (l0 : List Int) (h : ∀ x ∈ l0, (Lit.int .u8 x).wf = true) : ∃ bs, Bs bs ∧ spec_l6Open.f l0 = some (bs, 0) := by
  unfold spec_l6Open.f
  by_cases c : (l0.length : Int) > 2000
  · refine ⟨l0.take 2000, ⟨List.length_take_le _ _, fun x hx => byte_wf (h x (List.mem_of_mem_take hx))⟩, ?_⟩
    rw [if_pos c, if_pos (by omega)]
  · exact ⟨l0, ⟨by omega, fun x hx => byte_wf (h x hx)⟩, by rw [if_neg c]⟩
theorem rd_byte {bs : List Int} (h : Bs bs) (i : Nat) : ∃ b : Nat, b ≤ 255 ∧ rd bs (i : Int) = b := by
  have hx : 0 ≤ rd bs (i : Int) ∧ rd bs (i : Int) ≤ 255 := by
    unfold rd
    rw [Int.toNat_natCast]
    by_cases c : i < bs.length
    · have : bs.getD i 0 = bs[i] := by simp [List.getD, c]
      rw [this]
      exact h.byte _ (List.getElem_mem c)
    · have : bs.getD i 0 = 0 := by simp [List.getD, List.getElem?_eq_none (show bs.length ≤ i by omega)]
      rw [this]; omega
  obtain ⟨b, hb⟩ := Int.eq_ofNat_of_zero_le hx.1
  exact ⟨b, by omega, hb⟩
theorem xor_nat (a b : Nat) (ha : a < 2 ^ 62) (hb : b < 2 ^ 62) : Go.bits .xor .i64 (a : Int) (b : Int) = ((a ^^^ b : Nat) : Int) := by
  have h64 : IntKind.i64.bits = 64 := rfl
  have ha' : a % 2 ^ 64 = a := Nat.mod_eq_of_lt (by omega)
  have hb' : b % 2 ^ 64 = b := Nat.mod_eq_of_lt (by omega)
  have hx : a ^^^ b < 2 ^ 62 := Nat.xor_lt_two_pow ha hb
  simp only [Go.bits, h64, BitVec.ofInt_natCast, BitVec.toNat_xor, BitVec.toNat_ofNat, ha', hb']
  rw [IntKind.wrap_i64]
  omega
theorem pick_ev {bs : List Int} (h : Bs bs) (p n : Nat) (hp : p ≤ 1000000) (hn : 1 ≤ n) (hn2 : n ≤ 1000000) : ∃ v : Nat, v < n ∧ Ev (fun k => spec_l6Rd_pick.f k bs p n) ((v : Int), ((p + 1 : Nat) : Int)) := by
  have hl := h.len
  have e1 : wrap64 (((p + 1 : Nat) : Int) - 1) = (p : Nat) := by rw [wr (by omega) (by omega)]; omega
  have pos : ∀ v : Nat, Ev (fun k => spec_l6Rd_pick.j0 k n ((bs.length : Int) == 0) bs ((p + 1 : Nat) : Int)) ((v : Int), ((p + 1 : Nat) : Int)) → Ev (fun k => spec_l6Rd_pick.f k bs p n) ((v : Int), ((p + 1 : Nat) : Int)) := by
    intro v hv
    refine Ev.congr (fun k => ?_) hv
    unfold spec_l6Rd_pick.f
    rw [if_neg (by omega), wr1 (by omega)]
  by_cases c0 : bs.length = 0
  · refine ⟨0, by omega, pos 0 (Ev.end fun k => ?_)⟩
    simp only [spec_l6Rd_pick.j0]
    rw [if_pos (by rw [c0]; rfl)]
    rfl
  · have hne : ¬ (((bs.length : Int) == 0) = true) := by simp; intro h; exact c0 (by simp [h])
    by_cases c : p < bs.length
    · obtain ⟨b, hb, eb⟩ := rd_byte h p
      refine ⟨b % n, Nat.mod_lt _ (by omega), pos _ (Ev.end fun k => ?_)⟩
      simp only [spec_l6Rd_pick.j0]
      rw [if_neg hne, e1, if_pos (by omega), if_pos (by omega), if_neg (by omega), eb, wr (by omega) (by omega), tmod_nat]
    · have hm1 := Nat.mod_lt p (show bs.length > 0 by omega)
      have hm2 := Nat.mod_lt (p * 7 + 3) (show bs.length > 0 by omega)
      obtain ⟨b1, hb1, eb1⟩ := rd_byte h (p % bs.length)
      obtain ⟨b2, hb2, eb2⟩ := rd_byte h ((p * 7 + 3) % bs.length)
      have hd := Nat.div_le_self p bs.length
      have hx : b1 * 131 + b2 * 1117 + p * 29 + p / bs.length * 53 ≤ 100000000 := by omega
      refine ⟨((b1 * 131 + b2 * 1117 + p * 29 + p / bs.length * 53) ^^^ ((b1 * 131 + b2 * 1117 + p * 29 + p / bs.length * 53) / 64)) % n, Nat.mod_lt _ (by omega), pos _ (Ev.end fun k => ?_)⟩
      simp only [spec_l6Rd_pick.j0]
      have e7 : wrap64 (wrap64 (((p : Nat) : Int) * 7) + 3) = ((p * 7 + 3 : Nat) : Int) := by rw [wr (x := (p : Int) * 7) (by omega) (by omega), wr (by omega) (by omega)]; omega
      rw [if_neg hne, e1, if_neg (by omega), if_neg (by omega), e7, tmod_nat, tmod_nat, if_pos (by omega), if_pos (by omega), if_pos (by omega), if_pos (by omega), if_neg (by omega), eb1, eb2, tdiv_nat]
      have hX : wrap64 (wrap64 (wrap64 (wrap64 (wrap64 (b1 : Int) * 131) + wrap64 (wrap64 (b2 : Int) * 1117)) + wrap64 ((p : Int) * 29)) + wrap64 (wrap64 ((p / bs.length : Nat) : Int) * 53)) = ((b1 * 131 + b2 * 1117 + p * 29 + p / bs.length * 53 : Nat) : Int) := by
        generalize p / bs.length = q at *
        rw [wr (x := (b1 : Int)) (by omega) (by omega), wr (x := (b2 : Int)) (by omega) (by omega), wr (x := (b1 : Int) * 131) (by omega) (by omega), wr (x := (b2 : Int) * 1117) (by omega) (by omega), wr (x := (p : Int) * 29) (by omega) (by omega), wr (x := (q : Int)) (by omega) (by omega), wr (x := (q : Int) * 53) (by omega) (by omega), wr (x := (b1 : Int) * 131 + (b2 : Int) * 1117) (by omega) (by omega), wr (x := (b1 : Int) * 131 + (b2 : Int) * 1117 + (p : Int) * 29) (by omega) (by omega), wr (by omega) (by omega)]
        omega
      rw [hX]
      generalize b1 * 131 + b2 * 1117 + p * 29 + p / bs.length * 53 = X at hx
      have hq : wrap64 (Int.tdiv (X : Int) 64) = ((X / 64 : Nat) : Int) := by
        rw [show (64 : Int) = ((64 : Nat) : Int) from rfl, tdiv_nat, wr (by omega) (by omega)]
      rw [hq, xor_nat _ _ (by omega) (by omega), tmod_nat]

theorem signs_draw_l0 {bs : List Int} (h : Bs bs) (c : Nat) : ∀ (acc : List Int) (p : Nat), p + c ≤ 1000000 → acc.length + c ≤ 1000000 →
    ∃ s : ByteArray, s.size = acc.length + c ∧ Ev (fun k => spec_l91Signs.l0 k acc c bs p) (s, ((p + c : Nat) : Int)) := by
  induction c with
  | zero =>
    intro acc p hp ha
    refine ⟨strOfNums acc, strOfNums_size acc, Ev.end fun k => ?_⟩
    simp only [spec_l91Signs.l0]
    rw [if_neg (by omega)]; rfl
  | succ c ih =>
    intro acc p hp ha
    obtain ⟨v, hv, e⟩ := pick_ev h p 2 (by omega) (by omega) (by omega)
    obtain ⟨s, hs, es⟩ := ih (acc ++ [(wrap64 (48 + (v : Int))) % 256]) (p + 1) (by omega) (by rw [List.length_append, List.length_singleton]; omega)
    rw [List.length_append, List.length_singleton] at hs
    refine ⟨s, by omega, Ev.step (f := fun k => (spec_l6Rd_pick.f k bs p 2).bind fun x => if acc.length < 140737488355328 then spec_l91Signs.l0 k (acc ++ [(wrap64 (48 + x.1)) % 256]) (c : Nat) bs x.2 else none) (fun k => ?_) (Ev.bind e ?_)⟩
    · simp only [spec_l91Signs.l0]
      rw [if_pos (by omega), wr (x := ((c + 1 : Nat) : Int) - 1) (by omega) (by omega), show ((c + 1 : Nat) : Int) - 1 = (c : Int) from by omega]
    · simp only [if_pos (show acc.length < 140737488355328 from by omega)]
      rw [show p + (c + 1) = p + 1 + c from by omega]
      exact es
theorem signs_draw {bs : List Int} (h : Bs bs) (p low many : Nat) (hp : p ≤ 100000) (hl : low ≤ 1000) (hm : 1 ≤ many) (hm2 : many ≤ 1000) :
    ∃ (s : ByteArray) (q : Nat), s.size ≤ low + many ∧ q ≤ p + 1 + low + many ∧ Ev (fun k => spec_l91Signs.f k bs p low many) (s, (q : Int)) := by
  obtain ⟨v, hv, e⟩ := pick_ev h p many (by omega) hm (by omega)
  obtain ⟨s, hs, es⟩ := signs_draw_l0 h (low + v) [] (p + 1) (by omega) (by simp; omega)
  simp only [List.length_nil] at hs
  refine ⟨s, p + 1 + (low + v), by omega, by omega, ?_⟩
  unfold spec_l91Signs.f
  refine Ev.bind e ?_
  simp only [show wrap64 ((low : Int) + (v : Int)) = ((low + v : Nat) : Int) from by rw [wr (by omega) (by omega)]; omega]
  exact es

theorem set_draw {bs : List Int} (h : Bs bs) (p : Nat) (hp : p ≤ 50000) : ∃ (s : ByteArray) (q : Nat), s.size ≤ 100 ∧ q ≤ p + 100 ∧ Ev (fun k => spec_l91Set.f k bs p) (s, (q : Int)) := by
  obtain ⟨s1, p1, hs1, hp1, e1⟩ := signs_draw h p 0 6 (by omega) (by omega) (by omega) (by omega)
  obtain ⟨s2, p2, hs2, hp2, e2⟩ := signs_draw h p1 1 5 (by omega) (by omega) (by omega) (by omega)
  obtain ⟨v, hv, e3⟩ := pick_ev h p2 24 (by omega) (by omega) (by omega)
  have z1 : (⟨#[40]⟩ : ByteArray).size = 1 := rfl
  have z2 : (⟨#[41]⟩ : ByteArray).size = 1 := rfl
  have z3 : (⟨#[40, 48, 41]⟩ : ByteArray).size = 3 := rfl
  have key : ∃ (s : ByteArray) (q : Nat), s.size ≤ 100 ∧ q ≤ p + 100 ∧ Ev (fun k => if (v : Int) = 0 then ((some (([(⟨#[]⟩ : ByteArray), (⟨#[48]⟩ : ByteArray), (⟨#[40, 41]⟩ : ByteArray), (⟨#[49, 40]⟩ : ByteArray), (⟨#[40, 48, 41, 41]⟩ : ByteArray), (⟨#[97, 40, 49, 41]⟩ : ByteArray), (⟨#[40, 49, 41, 48]⟩ : ByteArray), (⟨#[48, 49, 40, 48, 50, 41]⟩ : ByteArray), (⟨#[48, 40, 40, 49, 41]⟩ : ByteArray)] : List ByteArray) : List ByteArray)).bind fun y => ((spec_l6Rd_pick.f k bs ((p2 + 1 : Nat) : Int) 9).bind fun x => (if 0 ≤ x.1 then (if x.1 < (y.length : Int) then (some (rdOf ByteArray.empty y x.1, x.2)) else (none)) else (none)))) else (if (v : Int) = 1 then ((spec_l91Signs.f k bs ((p2 + 1 : Nat) : Int) 0 6).bind fun x => (if x.1.size + 3 ≤ 9223372036854775807 then (some (x.1 ++ (⟨#[40, 48, 41]⟩ : ByteArray), x.2)) else (none))) else (if (v : Int) = 2 then (if 1 ≤ ((((s1 ++ (⟨#[40]⟩ : ByteArray)) ++ s2) ++ (⟨#[41]⟩ : ByteArray)).size : Int) then (if 1 + ((((s1 ++ (⟨#[40]⟩ : ByteArray)) ++ s2) ++ (⟨#[41]⟩ : ByteArray)).extract 1 (((s1 ++ (⟨#[40]⟩ : ByteArray)) ++ s2) ++ (⟨#[41]⟩ : ByteArray)).size).size ≤ 9223372036854775807 then (some ((⟨#[40]⟩ : ByteArray) ++ ((((s1 ++ (⟨#[40]⟩ : ByteArray)) ++ s2) ++ (⟨#[41]⟩ : ByteArray)).extract 1 (((s1 ++ (⟨#[40]⟩ : ByteArray)) ++ s2) ++ (⟨#[41]⟩ : ByteArray)).size), ((p2 + 1 : Nat) : Int))) else (none)) else (none)) else (some (((s1 ++ (⟨#[40]⟩ : ByteArray)) ++ s2) ++ (⟨#[41]⟩ : ByteArray), ((p2 + 1 : Nat) : Int)))))) (s, (q : Int)) := by
    by_cases c0 : v = 0
    · obtain ⟨u, hu, e4⟩ := pick_ev h (p2 + 1) 9 (by omega) (by omega) (by omega)
      refine ⟨rdOf ByteArray.empty [(⟨#[]⟩ : ByteArray), (⟨#[48]⟩ : ByteArray), (⟨#[40, 41]⟩ : ByteArray), (⟨#[49, 40]⟩ : ByteArray), (⟨#[40, 48, 41, 41]⟩ : ByteArray), (⟨#[97, 40, 49, 41]⟩ : ByteArray), (⟨#[40, 49, 41, 48]⟩ : ByteArray), (⟨#[48, 49, 40, 48, 50, 41]⟩ : ByteArray), (⟨#[48, 40, 40, 49, 41]⟩ : ByteArray)] (u : Int), p2 + 1 + 1, ?_, by omega, ?_⟩
      · have : u = 0 ∨ u = 1 ∨ u = 2 ∨ u = 3 ∨ u = 4 ∨ u = 5 ∨ u = 6 ∨ u = 7 ∨ u = 8 := by omega
        rcases this with rfl | rfl | rfl | rfl | rfl | rfl | rfl | rfl | rfl <;> decide
      · simp only [if_pos (show (v : Int) = 0 from by omega), Option.bind_some]
        refine Ev.bind e4 (Ev.const fun k => ?_)
        rw [if_pos (by omega), if_pos (by simp; omega)]
    · simp only [if_neg (show ¬ (v : Int) = 0 from by omega)]
      by_cases c1 : v = 1
      · obtain ⟨s4, p4, hs4, hp4, e4⟩ := signs_draw h (p2 + 1) 0 6 (by omega) (by omega) (by omega) (by omega)
        refine ⟨s4 ++ ⟨#[40, 48, 41]⟩, p4, by rw [ByteArray.size_append, z3]; omega, by omega, ?_⟩
        simp only [if_pos (show (v : Int) = 1 from by omega)]
        refine Ev.bind e4 (Ev.const fun k => ?_)
        rw [if_pos (by show s4.size + 3 ≤ 9223372036854775807; omega)]
      · simp only [if_neg (show ¬ (v : Int) = 1 from by omega)]
        have hsz : (((s1 ++ (⟨#[40]⟩ : ByteArray)) ++ s2) ++ (⟨#[41]⟩ : ByteArray)).size = s1.size + 1 + s2.size + 1 := by
          rw [ByteArray.size_append, ByteArray.size_append, ByteArray.size_append, z1, z2]
        by_cases c2 : v = 2
        · simp only [if_pos (show (v : Int) = 2 from by omega)]
          have hx : ((((s1 ++ (⟨#[40]⟩ : ByteArray)) ++ s2) ++ (⟨#[41]⟩ : ByteArray)).extract 1 (((s1 ++ (⟨#[40]⟩ : ByteArray)) ++ s2) ++ (⟨#[41]⟩ : ByteArray)).size).size = s1.size + 1 + s2.size := by
            rw [ext_size _ _ _ (Nat.le_refl _), hsz]; omega
          refine ⟨(⟨#[40]⟩ : ByteArray) ++ ((((s1 ++ (⟨#[40]⟩ : ByteArray)) ++ s2) ++ (⟨#[41]⟩ : ByteArray)).extract 1 (((s1 ++ (⟨#[40]⟩ : ByteArray)) ++ s2) ++ (⟨#[41]⟩ : ByteArray)).size), p2 + 1, ?_, by omega, Ev.const fun k => ?_⟩
          · rw [ByteArray.size_append, z1, hx]; omega
          · rw [if_pos (by omega), if_pos (by omega)]
        · simp only [if_neg (show ¬ (v : Int) = 2 from by omega)]
          exact ⟨_, p2 + 1, by rw [hsz]; omega, by omega, Ev.now _⟩
  obtain ⟨s, q, g1, g2, g3⟩ := key
  refine ⟨s, q, g1, g2, ?_⟩
  unfold spec_l91Set.f
  refine Ev.bind e1 ?_
  simp only [if_pos (show s1.size + 1 ≤ 9223372036854775807 from by omega)]
  refine Ev.bind e2 ?_
  have w1 : s1.size + 1 + s2.size ≤ 9223372036854775807 := by omega
  have w2 : s1.size + 1 + s2.size + 1 ≤ 9223372036854775807 := by omega
  simp only [if_pos w1, if_pos w2]
  exact Ev.bind e3 g3

end Go.Proofs.Ytpkpgdlbgcjloaa.Q

namespace Go.Proofs.Ytpkpgdlbgcjloaa.Q
open Go.RowKit Go.Proofs.YtpkpgdlbgcjloaaW.PrintWords Go.Proofs.YtpkpgdlbgcjloaaW.PrintLast Go.Proofs.YtpkpgdlbgcjloaaW.PrintMore
open Go.Proofs.Ytpkpgdlbgcjloaa.Pl
set_option linter.unusedVariables false
set_option linter.unusedSimpArgs false
theorem draw_two {g : Nat → List Int → Option (ByteArray × ByteArray)} (hg : ∀ k l, g k l = (spec_l6Open.f l).bind fun x => (spec_l91Set.f k x.1 x.2).bind fun y => (spec_l91Set.f k x.1 y.2).bind fun z => some (y.1, z.1)) (l0 : List Int) (h : ∀ x ∈ l0, (Lit.int .u8 x).wf = true) : ∃ s u : ByteArray, s.size ≤ 1000 ∧ u.size ≤ 1000 ∧ Ev (fun k => g k l0) (s, u) := by
  obtain ⟨bs, hb, eo⟩ := open_ev l0 h
  obtain ⟨s, q, g1, g2, g3⟩ := set_draw hb 0 (by omega)
  obtain ⟨s2, q2, k1, k2, k3⟩ := set_draw hb q (by omega)
  refine ⟨s, s2, by omega, by omega, Ev.congr (fun k => hg k l0) ?_⟩
  rw [eo]; simp only [Option.bind_some]
  exact Ev.bind g3 (Ev.bind k3 (Ev.now _))
theorem setHas_small {s : ByteArray} {t r : List Bool} (h : IsSmall s t r) (n : Nat) (hn : n ≤ 1073741824) : impl_SetHas.f s n = some (hasB t r n) := by
  obtain ⟨t0, r0, h0, h1⟩ := h.has
  unfold impl_SetHas.f
  rw [h0.impl]; simp only [Option.bind_some, if_true]
  rw [set_has h0.good n (by omega), h1]; rfl
theorem starHas_ev {s : ByteArray} {t r : List Bool} (h : IsSmall s t r) (n : Nat) (hn : n ≤ 2000) : Ev (fun k => impl_StarHas.f k s n) (star (hasB t r) n) := by
  obtain ⟨l, k1, k2⟩ := star_ev h.good (n + 1) (by omega)
  have := k2.len
  have hin : impl_in.f n 0 2000 = some true := by rw [in_eq', decide_eq_true (by omega)]
  have e : wrap64 ((n : Int) + 1) = ((n + 1 : Nat) : Int) := wr1 (by omega)
  unfold impl_StarHas.f
  refine Ev.bind h.impl ?_
  simp only [if_true, hin, Option.bind_some, e]
  refine Ev.bind k1 (Ev.const fun k => ?_)
  rw [if_pos (by omega), if_pos (by omega), rdOf_nat, k2.get n (by omega)]
theorem starHas_no {s : ByteArray} (h : NoSmall s) (n : Int) : Ev (fun k => impl_StarHas.f k s n) false := by
  obtain ⟨⟨a, b, e⟩, _⟩ := h
  unfold impl_StarHas.f
  refine Ev.bind e ?_
  simp only [Bool.false_eq_true, if_false]
  exact Ev.now _
theorem setHas_some (s : ByteArray) (hs : s.size ≤ 1073741824) (n : Nat) (hn : n ≤ 1073741824) : ∃ b, impl_SetHas.f s n = some b := by
  rcases read_cases s hs with h | ⟨t, r, h⟩
  · exact ⟨false, setHas4_no h n⟩
  · exact ⟨_, setHas4 h n hn⟩

/-- Two sets that are not both small. -/
def NoTwo (s u : ByteArray) : Prop := (NoSmall s ∨ ∃ t r, IsSmall s t r) ∧ (NoSmall u ∨ ∃ t r, IsSmall u t r) ∧ (NoSmall s ∨ NoSmall u)
theorem two_cases (s u : ByteArray) (hs : s.size ≤ 1073741824) (hu : u.size ≤ 1073741824) : NoTwo s u ∨ ∃ ta ra tb rb, IsSmall s ta ra ∧ IsSmall u tb rb := by
  have cs := small_cases s hs
  have cu := small_cases u hu
  rcases cs with h | ⟨t, r, h⟩
  · exact .inl ⟨.inl h, cu, .inl h⟩
  · rcases cu with g | ⟨t', r', g⟩
    · exact .inl ⟨.inr ⟨t, r, h⟩, .inl g, .inr g⟩
    · exact .inr ⟨t, r, t', r', h, g⟩
/-- What SolveLeast and SolveMost answer on two small sets: each is empty or told. -/
theorem leastMost {s u : ByteArray} {ta ra tb rb : List Bool} (h : IsSmall s ta ra) (h2 : IsSmall u tb rb) : ∃ y : ByteArray × Bool, (Ev (fun k => impl_SolveLeast.f k s u) y ∧ Ev (fun k => spec_SolveLeast.f k s u) y) ∧ (y = empt ∨ Told (lst (hasB ta ra) (hasB tb rb)) y) ∧
    ∃ z : ByteArray × Bool, (Ev (fun k => impl_SolveMost.f k s u) z ∧ Ev (fun k => spec_SolveMost.f k s u) z) ∧ z = (if hasB ta ra 0 = true then (text [] [true], true) else y) := by
  obtain ⟨y, y1, y2, y3⟩ := solveLeast_both h h2
  exact ⟨y, ⟨y1, y2⟩, y3, _, solveMost_both h h2 y1 y2, by rw [text_all]⟩
/-- A told answer that is there. -/
theorem told_there {f : Nat → Bool} {y : ByteArray × Bool} (h : y = empt ∨ Told f y) (e : y.2 = true) : ∃ t r, Canon t r ∧ Good t r ∧ (∀ n, hasB t r n = f n) ∧ y = (text t r, true) ∧ IsSet (text t r) t r := by
  rcases h with rfl | h
  · cases e
  · obtain ⟨t, r, h1, h2, h3, h4⟩ := h.yes e
    exact ⟨t, r, h1, h2, h3, h4, text_isSet h2⟩
theorem solveOne_full {s u : ByteArray} {ta ra tb rb : List Bool} (h : IsSmall s ta ra) (h2 : IsSmall u tb rb) : ∃ b : Bool, Ev (fun k => impl_SolveOne.f k s u) b ∧ Ev (fun k => spec_SolveOne.f k s u) b ∧ (b = true ↔ hasB ta ra 0 = false ∨ ∀ n, lst (hasB ta ra) (hasB tb rb) n = true) := by
  obtain ⟨b, k1, k2⟩ := solveOne_yes h h2
  refine ⟨b, k1, k2, ?_⟩
  have e0 := set_has h.good 0 (by omega)
  by_cases c : hasB ta ra 0 = true
  · obtain ⟨l, s1, s2⟩ := solved_ev h.good h2.good 1000 (by omega)
    obtain ⟨b1, g1, g2⟩ := all_l0 s2 (by omega) 1000 0 (by omega)
    have htl := h.tl
    have : Ev (fun k => impl_SolveOne.f k s u) b1 := by
      unfold impl_SolveOne.f
      refine Ev.bind (two_yes h h2) ?_
      simp only [if_true, show impl_set_has.f ta ra 0 = some (hasB ta ra 0) from e0, Option.bind_some, c]
      refine Ev.bind s1 (Ev.bind ?_ (Ev.now _))
      unfold impl_all.f
      rw [s2.len]
      exact g1
    obtain rfl := Ev.unique k1 this
    rw [g2]
    constructor
    · exact fun hx => .inr fun n => least_far h.good.pos h2.good.pos h.rl h2.rl h.tl h2.tl (fun n hn => hx n (Nat.zero_le _) (by omega)) n
    · rintro (hx | hx)
      · rw [c] at hx; cases hx
      · exact fun n _ _ => hx n
  · have : Ev (fun k => impl_SolveOne.f k s u) true := by
      unfold impl_SolveOne.f
      refine Ev.bind (two_yes h h2) ?_
      simp only [if_true, show impl_set_has.f ta ra 0 = some (hasB ta ra 0) from e0, Option.bind_some, c]
      exact Ev.now _
    obtain rfl := Ev.unique k1 this
    exact ⟨fun _ => .inl (by cases k : hasB ta ra 0 with | false => rfl | true => exact absurd k c), fun _ => rfl⟩

/-- The states of the loop: each is empty or the text of a set. -/
def Text (x : ByteArray × Bool) : Prop := x = empt ∨ ∃ t r, Canon t r ∧ Good t r ∧ x = (text t r, true)
theorem Text.of {f : Nat → Bool} {x : ByteArray × Bool} (h : Told f x) : Text x := by
  cases c : x.2 with
  | false => exact .inl (h.no c)
  | true =>
    obtain ⟨t, r, h1, h2, h3, h4⟩ := h.yes c
    exact .inr ⟨t, r, h1, h2, h4⟩
abbrev one : ByteArray × Bool := ((⟨#[49, 40, 48, 41]⟩ : ByteArray), true)
end Go.Proofs.Ytpkpgdlbgcjloaa.Q

namespace Go.Proofs.Ytpkpgdlbgcjloaa.Pure
open Go.RowKit Go.Proofs.Ytpkpgdlbgcjloaa.Q Go.Proofs.YtpkpgdlbgcjloaaW.PrintWords Go.Proofs.YtpkpgdlbgcjloaaW.PrintLast
open Go.Proofs.Ytpkpgdlbgcjloaa.Pl
set_option linter.unusedSimpArgs false
set_option linter.unusedVariables false
theorem FnSolveOne : laws_FnSolveOne.Pure := by
  intro l0 h1 h2 h
  by_cases hz : (l0.length : Int) > 1048576
  · exact ⟨0, by unfold laws_FnSolveOne.f; rw [if_pos hz]⟩
  obtain ⟨s, u, hs, hu, hd⟩ := draw_two (g := spec_DrawSolveOne.f) (fun k l => rfl) l0 h
  refine Ev.rounds ?_
  unfold laws_FnSolveOne.f
  refine Ev.eq (funext fun k => if_neg hz) (Ev.bind hd ?_)
  obtain ⟨hb, hh⟩ := setHas_some s (by omega) 0 (by omega)
  have hh' : impl_SetHas.f s 0 = some hb := hh
  rcases two_cases s u (by omega) (by omega) with ⟨h1, h2, h3⟩ | ⟨ta, ra, tb, rb, g, g2⟩
  · obtain ⟨e1, e2⟩ := solveOne_no h1 h2 h3
    obtain ⟨e3, _⟩ := solveLeast_no h1 h2 h3
    obtain ⟨e4, _⟩ := solveMost_no h1 h2 h3
    obtain ⟨e5, _⟩ := solveIs_no h1 h2 h1 (h3.elim (fun k => .inl k) (fun k => .inr (.inl k)))
    refine Ev.bind e1 (Ev.bind e2 (Ev.eq (funext fun k => if_pos rfl) (Ev.bind e3 (Ev.bind e4 (Ev.bind e5 ?_)))))
    simp only [Bool.false_eq_true, if_false]
    rcases h1 with h1 | ⟨t, r, h1⟩
    · refine Ev.bind (starHas_no h1 0) ?_
      simp only [Bool.false_eq_true, if_false]
      exact Ev.now _
    · have n2 : NoSmall u := by
        rcases h3 with k | k
        · obtain ⟨⟨a, b, e⟩, _⟩ := k
          have := Ev.unique e h1.impl
          simp at this
        · exact k
      refine Ev.bind (starHas_ev h1 0 (by omega)) ?_
      split
      · refine Ev.bind (starHas_no n2 0) ?_
        simp only [Bool.false_eq_true, if_false]
        exact Ev.now _
      · exact Ev.now _
  · obtain ⟨b, e1, e2, e3⟩ := solveOne_full g g2
    obtain ⟨y, ⟨y1, _⟩, y3, z, ⟨z1, _⟩, z3⟩ := leastMost g g2
    obtain ⟨c, k1, _, _⟩ := solveIs_yes g g2 g
    have hs1 := starHas_ev g 0 (by omega)
    have hs2 := starHas_ev g2 0 (by omega)
    rw [setHas_small g 0 (by omega)] at hh
    have hb0 : hasB ta ra 0 = hb := Option.some.inj hh
    -- one solution: the least and the greatest are one text
    have same : b = true → y.2 = true → z.2 = true → y.1.toList = z.1.toList := by
      intro q1 q2 q3
      rcases Bool.eq_false_or_eq_true (hasB ta ra 0) with c0 | c0
      · rw [if_pos c0] at z3
        obtain ⟨t, r, a1, a2, a3, rfl, a5⟩ := told_there y3 q2
        have all : ∀ n, hasB t r n = hasB [] [true] n := by
          intro n
          rw [a3, has_all]
          rcases e3.1 q1 with k | k
          · rw [c0] at k; cases k
          · exact k n
        obtain ⟨rfl, rfl⟩ := canon_unique a1 canon_all all
        rw [z3]
      · rw [if_neg (by rw [c0]; simp)] at z3
        rw [z3]
    have yes : hb = false → b = true := fun k => e3.2 (.inl (by rw [hb0]; exact k))
    refine Ev.bind e1 (Ev.bind e2 (Ev.eq (funext fun k => if_pos (by simp)) (Ev.bind y1 (Ev.bind z1 (Ev.bind k1 ?_)))))
    simp only [hh', Option.bind_some]
    have fin : (if hb = true then some true else some b) = some true := by
      cases hb with
      | true => rfl
      | false => simp only [Bool.false_eq_true, if_false]; rw [yes rfl]
    simp only [fin]
    by_cases cc : c = true
    · simp only [if_pos cc]
      by_cases cb : b = true
      · simp only [if_pos cb]
        by_cases cy : y.2 = true
        · simp only [if_pos cy]
          by_cases cz : z.2 = true
          · simp only [if_pos cz, if_pos (same cb cy cz)]; exact Ev.now _
          · simp only [if_neg cz]; exact Ev.now _
        · simp only [if_neg cy]; exact Ev.now _
      · simp only [if_neg cb]; exact Ev.now _
    · simp only [if_neg cc]
      refine Ev.bind hs1 ?_
      have rest : ∀ x : Bool, (if b = true then (if y.2 = true then (if z.2 = true then (if y.1.toList = z.1.toList then (if x = true then some true else some true) else some false) else (if x = true then some true else some true)) else (if x = true then some true else some true)) else (if x = true then some true else some true)) = some true := by
        intro x
        by_cases cb : b = true
        · rw [if_pos cb]
          by_cases cy : y.2 = true
          · rw [if_pos cy]
            by_cases cz : z.2 = true
            · rw [if_pos cz, if_pos (same cb cy cz)]; simp
            · rw [if_neg cz]; simp
          · rw [if_neg cy]; simp
        · rw [if_neg cb]; simp
      have rest0 : (if b = true then (if y.2 = true then (if z.2 = true then (if y.1.toList = z.1.toList then some true else some false) else some true) else some true) else some true) = some true := by
        have := rest true
        simpa using this
      split
      · refine Ev.bind hs2 ?_
        exact Ev.const fun k => rest _
      · exact Ev.const fun k => rest0

end Go.Proofs.Ytpkpgdlbgcjloaa.Pure
