/- A term has what its set has; no condition beyond the statement's own. -/
import Derived.ArgAppend
import Derived.Below
import Derived.BigQuiet
import Derived.Deep.AppendLies
import Derived.Deep.CutBlock
import Derived.Deep.DeepCutAuto
import Derived.Deep.Draws
import Derived.Deep.LoopGhost
import Derived.Deep.OwnRows
import Derived.Deep.QuietTactic
import Derived.Deep.RegionHeld3
import Derived.KernelRfl
import Derived.Laws.BitsLemmas
import Derived.Laws.BytesArg
import Derived.Laws.IdiomCopy
import Derived.Laws.MakeOwn
import Derived.Laws.OwnMore
import Derived.Laws.Rows
import Derived.Laws.Slices
import Derived.Lib.AppendStr
import Derived.Lib.Builder
import Derived.Lib.Bytealg
import Derived.Lib.ConvBytes
import Derived.Lib.Hide
import Derived.Lib.Slices
import Derived.Lib.Strings
import Derived.Lib.UnsafeStr
import Derived.Lib.Walk
import Derived.LoopN
import Derived.Maps.AppendAt
import Derived.OrdersHeld
import Derived.OwnWalk
import Derived.RowKit
import Derived.RowKit3
import Derived.Tactics
import Derived.Test.YtedhckahjinieaaProg
import Derived.Laws.StructEq
import Derived.WalkKit
import Derived.WalkSpells
import Derived.WideLaws
import Derived.Test.YtedhckahjinieaaCFnTermHas2
import Derived.Test.YtedhckahjinieaaCFnTermHas5
import Derived.Test.YtedhckahjinieaaCFnTermHas6
import Derived.Test.YtedhckahjinieaaCFnTermHas7
namespace Go.Proofs.Ytedhckahjinieaa.Q
open Go.RowKit Go.Proofs.YtedhckahjinieaaW.PrintWords Go.Proofs.YtedhckahjinieaaW.PrintLast Go.Proofs.YtedhckahjinieaaW.PrintMore
theorem bN : type_of% @pw_below_drewN := @pw_below_drewN
theorem b1 : type_of% @below_drew1 := @below_drew1
theorem bA : type_of% @below_alloc := @below_alloc
theorem bS : type_of% @below_set := @below_set
theorem kA : type_of% @blk_alloc := @blk_alloc
theorem kN : type_of% @blk_drewN := @blk_drewN
theorem kD : type_of% @blk_drew := @blk_drew
theorem rN : type_of% @Kd.R_drewN := @Kd.R_drewN
theorem rA : type_of% @Kd.R_alloc := @Kd.R_alloc
theorem rD : type_of% @Kd.R_drew := @Kd.R_drew
theorem sA : type_of% @List.setIfInBounds_toArray := @List.setIfInBounds_toArray
theorem sZ : type_of% @List.set_cons_zero := @List.set_cons_zero
theorem sS : type_of% @List.set_cons_succ := @List.set_cons_succ
theorem aM : type_of% @Aside0.mk := @Aside0.mk
theorem aA : type_of% @blk_cell := @blk_cell
theorem aC : type_of% @blk_frozen := @blk_frozen
theorem aD : type_of% @blk_below := @blk_below
theorem aE : type_of% @below_step := @below_step
theorem aG : type_of% @below_size := @below_size
theorem aH : type_of% @decide_eq_true := @decide_eq_true
theorem aJ : type_of% @of_decide_eq_true := @of_decide_eq_true
theorem aK : type_of% @decide_eq_false := @decide_eq_false
theorem aN : type_of% @List.map_toArray := @List.map_toArray
theorem aQ : type_of% @List.map_cons := @List.map_cons
theorem aT : type_of% @List.map_nil := @List.map_nil
theorem aV : type_of% @Option.some.injEq := @Option.some.injEq
theorem aW : type_of% @Prod.mk.injEq := @Prod.mk.injEq
theorem aY : type_of% @gate_callee := @gate_callee
theorem aZ : type_of% @gate_dst := @gate_dst
theorem bB : type_of% @box_event := @box_event
theorem bC : type_of% @Kd.R_far := @Kd.R_far
theorem bE : type_of% @Kd.R_types := @Kd.R_types
theorem bF : type_of% @Kd.C_below := @Kd.C_below
theorem bG : type_of% @Kd.R_below := @Kd.R_below
theorem bJ : type_of% @Kd.R_mono := @Kd.R_mono
theorem bL : type_of% @Kd.R_slice := @Kd.R_slice
theorem bM : type_of% @Kd.R_reads' := @Kd.R_reads'
theorem bP : type_of% @Kd.R_lower := @Kd.R_lower
theorem bR : type_of% @Option.bind_some := @Option.bind_some
theorem bU : type_of% @Option.some.inj := @Option.some.inj
theorem bV : type_of% @blk_put := @blk_put
theorem bW : type_of% @World.size_alloc := @World.size_alloc
theorem bX : type_of% @Bool.false_eq_true := @Bool.false_eq_true
theorem bZ : type_of% @putSel_upk := @putSel_upk
theorem cA : type_of% @putSel_on := @putSel_on
theorem cB : type_of% @putSel_off := @putSel_off
theorem cC : type_of% @of_eq_true := @of_eq_true
theorem cD : type_of% @Nat.le_refl := @Nat.le_refl
theorem cE : type_of% @Below.refl := @Below.refl
theorem cF : type_of% @bodyPost_ret := @bodyPost_ret
theorem cG : type_of% @results_ct := @results_ct
theorem cH : type_of% @Kd.R_keep := @Kd.R_keep
theorem cJ : type_of% @Kd.R_after := @Kd.R_after
theorem cK : type_of% @KeepBut.trans := @KeepBut.trans
theorem cL : type_of% @blk_far := @blk_far
theorem cM : type_of% @blk_set := @blk_set
theorem cN : type_of% @pw_cell_below := @pw_cell_below
theorem cP : type_of% @Kd.C_of_reads := @Kd.C_of_reads
theorem cQ : type_of% @Kd.R_form := @Kd.R_form
theorem cR : type_of% @Kd.at_string := @Kd.at_string
theorem cS : type_of% @i64_w := @i64_w
theorem cT : type_of% @i32_w := @i32_w
section
variable {P : Program} {md : Region.Mode} {ops : Array Oper} {Q : Exit → Act → World → Prop} {S : World → Prop} {ds : List Nat}
theorem pQ (i K : Nat) {T : Bool × List (List Nat × List Nat)} {oi : Oper} {v : Value} {fuel : Nat} {l : Array Bool} {a a' : Act} {w : World} (hT : Aside0 (rtab md ops = T)) (h : wpAnyLast P md ops Q S ds fuel (l.setIfInBounds i true) a' w)
  (hi : ops[i]? = some oi := by rfl) (hN : oi.dst = some K := by rfl) (hc : anyT T l.toList (l.setIfInBounds i true).toList i = true := by kernel_rfl) (hw : Region.wanted oi (yielded ops a.tmps) = true := by rfl)
  (hy : ∀ w', (execOp a.eval oi).run P w' = .ok (.value v) w' := by intro w'; go_simp; with_reducible rfl)
  (ha : a.put (some K) v = a' := by simp only [Act.put, List.setIfInBounds_toArray, List.set_cons_zero, List.set_cons_succ, i64_w, i32_w]; rfl)
  (hQ : ∀ c a w, Q (.panic c) (a.put oi.dst v) w → Q (.panic c) a w := by exact fun _ _ _ h => h) : wpAnyLast P md ops Q S ds (fuel + 1) l a w := pure_ _ hi hN (any_of hT.out hc) hQ (Or.inl ⟨hw, hy⟩) ha h
theorem uQ (i K : Nat) {T : Bool × List (List Nat × List Nat)} {oi : Oper} {fuel : Nat} {l : Array Bool} {a a' : Act} {w : World} (hT : Aside0 (rtab md ops = T)) (h : wpAnyLast P md ops Q S ds fuel (l.setIfInBounds i true) a' w)
  (hi : ops[i]? = some oi := by rfl) (hN : oi.dst = some K := by rfl) (hc : anyT T l.toList (l.setIfInBounds i true).toList i = true := by kernel_rfl) (hw : Region.wanted oi (yielded ops a.tmps) = false := by rfl)
  (ha : a.put (some K) undef = a' := by simp only [Act.put, List.setIfInBounds_toArray, List.set_cons_zero, List.set_cons_succ, i64_w, i32_w]; rfl)
  (hQ : ∀ c a w, Q (.panic c) (a.put oi.dst undef) w → Q (.panic c) a w := by exact fun _ _ _ h => h) : wpAnyLast P md ops Q S ds (fuel + 1) l a w := pure_ _ hi hN (any_of hT.out hc) hQ (Or.inr ⟨hw, rfl⟩) ha h
theorem tQ (i K : Nat) {T : Bool × List (List Nat × List Nat)} {B : List Nat} {oi : Oper} {v : Value} {fuel : Nat} {l : Array Bool} {a a' : Act} {w : World} (hT : Aside0 (rtab md ops = T)) (hB : Aside0 (waitsOk T.2 B = true)) (hS : S w) (h : wpAnyLast P md ops Q S ds fuel (l.setIfInBounds i true) a' w)
  (hi : ops[i]? = some oi := by rfl) (hN : oi.dst = some K := by rfl) (hc : takeW T B ds l.toList (l.setIfInBounds i true).toList i = true := by kernel_rfl) (hw : Region.wanted oi (yielded ops a.tmps) = true := by rfl)
  (hy : ∀ w', S w' → (execOp a.eval oi).run P w' = .ok (.value v) w' := by intro w' h_; (try dsimp only at h_); repeat (obtain ⟨_, h_⟩ : _ ∧ _ := h_); go_simp; with_reducible rfl)
  (ha : a.put (some K) v = a' := by simp only [Act.put, List.setIfInBounds_toArray, List.set_cons_zero, List.set_cons_succ, i64_w, i32_w]; rfl)
  (hQ : ∀ c a w, Q (.panic c) (a.put oi.dst v) w → Q (.panic c) a w := by exact fun _ _ _ h => h) : wpAnyLast P md ops Q S ds (fuel + 1) l a w := take_ _ hi hN (take_ofW hT.out hB.out hc) hQ (Or.inl ⟨hw, hy⟩) hS ha h
theorem oQ (i N_ : Nat) {T : Bool × List (List Nat × List Nat)} {oi : Oper} {fuel : Nat} {l : Array Bool} {a : Act} {w : World} (hT : Aside0 (rtab md ops = T))
  (h : ∀ K : Act → World → Prop, Shut (∀ a' w', S w' → (S w' → wpAnyLast P md ops Q S ds fuel (l.setIfInBounds i true) a' w') → K a' w') → if Region.wanted oi (yielded ops a.tmps) = true then Oper.wp P oi a w K Q else K (a.put (some N_) undef) w)
  (hi : ops[i]? = some oi := by rfl) (hN : oi.dst = some N_ := by rfl) (hc : (readyT T.2 l.toList == [i] && l.toList.set i true == (l.setIfInBounds i true).toList) = true := by kernel_rfl) (hd : i ∉ ds := by decide) : wpAnyLast P md ops Q S ds (fuel + 1) l a w := one_ _ hi hN (one_of hT.out hc) hd h
theorem gL {rest : List Oper} {oi : Oper} {a : Act} {w : World} {f : FuncId} {fn : Func} {ars : Array Operand} {ts : Array TypeId} (N : Nat) (hf : P.funcs[f]? = some fn) (args : Array Value) (h : Calls P f args w fun e w' => ∃ v, e = .returned v ∧ wpList P ops Q rest (a.put (some N) v) w')
  (hd : oi.dst = some N := by rfl) (hg : oi.guard = none := by rfl) (hname : (fn.name == "runtime.NumGoroutine") = false := by kernel_rfl) (hb : fn.body.isSome = true := by rfl) (hop : oi.op = .call { callee := .value (.func f), args := ars, argTypes := ts } := by rfl)
  (hargs : ars.map a.eval = args := by (try simp only [List.map_toArray, List.map_cons, List.map_nil]); first | done | rfl) : wpList P ops Q (oi :: rest) a w := goesL_ _ hd hg hf hname hb args hop hargs h
theorem gO {oi : Oper} {N : Option Tmp} {a : Act} {w : World} {K : Act → World → Prop} {f : FuncId} {fn : Func} {ars : Array Operand} {ts : Array TypeId} (hf : P.funcs[f]? = some fn) (args : Array Value) (h : Calls P f args w fun e w' => ∃ v, e = .returned v ∧ K (a.put N v) w')
  (hname : (fn.name == "runtime.NumGoroutine") = false := by kernel_rfl) (hb : fn.body.isSome = true := by rfl) (hw : Region.wanted oi (yielded ops a.tmps) = true := by rfl) (hN : oi.dst = N := by rfl) (hop : oi.op = .call { callee := .value (.func f), args := ars, argTypes := ts } := by rfl)
  (hargs : ars.map a.eval = args := by (try simp only [List.map_toArray, List.map_cons, List.map_nil]); first | done | rfl) : if Region.wanted oi (yielded ops a.tmps) = true then Oper.wp P oi a w K Q else K (a.put N undef) w := goes_ hf hname hb args hw hN hop hargs h
theorem nQ {fuel : Nat} {l : Array Bool} {a a' : Act} {w : World} (h : wpAnyLast P md ops Q S ds fuel l a' w) (ha : a = a' := by show Act.put _ (some _) _ = _; simp only [Act.put, List.setIfInBounds_toArray, List.set_cons_zero, List.set_cons_succ, i64_w, i32_w]; rfl) : wpAnyLast P md ops Q S ds fuel l a w := norm_ ha h
end
end Go.Proofs.Ytedhckahjinieaa.Q

namespace Go.Proofs.Ytedhckahjinieaa.Q
open Go.RowKit Go.Proofs.YtedhckahjinieaaW.PrintWords Go.Proofs.YtedhckahjinieaaW.PrintLast Go.Proofs.YtedhckahjinieaaW.PrintMore
attribute [local go_sem] max2_int max_two
set_option linter.unusedVariables false
set_option linter.unusedSimpArgs false
def errW : Option Int → Value
 | none => .nilIface
 | some c => .iface 0 (.int .i64 c)
theorem errW_none : errW none = .nilIface := rfl
theorem errW_some (c : Int) : errW (some c) = .iface 0 (.int .i64 c) := rfl

theorem info4 : (Try.prog.info? 4).map (fun i => (i.zero, i.size, i.bytes)) = some (some (.bool false), 1, 1) := by kernel_rfl
theorem info5 : (Try.prog.info? 5).map (fun i => (i.zero, i.size, i.bytes)) = some (some (.int .u8 0), 1, 1) := by kernel_rfl
structure S49 where
 f0 : Int
 f1 : (List S49)
def z49 : S49 := ⟨(0 : Int), ([] : List S49)⟩
def F49 (d : Kd S49) : Kd S49 := Kd.iso (Kd.pair (Kd.int .u8) (Kd.slice 49 d)) (fun x : S49 => (x.f0, x.f1))
theorem mono49 : Kd.Mono F49 := Kd.mono_iso _ (Kd.mono_pair (Kd.mono_const _) (Kd.mono_slice 49 Kd.mono_id))
theorem sub49 : Kd.Sub F49 [49] := Kd.sub_iso _ (Kd.sub_pair (Kd.sub_const _ (by decide)) (Kd.sub_slice 49 (by decide) Kd.sub_id))
theorem sz49 : ∀ n, (Kd.upto F49 2 [49] n).sz = 2 := Kd.upto_sz (fun _ => rfl)
def k49 : Kd S49 := Kd.fix F49 2 [49] sz49 (Kd.upto_E sub49)
theorem k49_open {w : World} {x : S49} {cs : List Value} (h : k49.K w x cs) : ∃ A1 c1, cs = [.int .u8 x.f0, .slice A1 x.f1.length c1] ∧ x.f1.length ≤ c1 ∧ k49.C w A1 x.f1.length x.f1 := by
 obtain ⟨n, h⟩ := h
 cases n with
 | zero => exact h.elim
 | succ n =>
  obtain ⟨_, _, rfl, rfl, ⟨A1, c1, rfl, l1, g1⟩⟩ := h
  exact ⟨A1, c1, rfl, l1, Kd.fix_C g1⟩
theorem k49_mk (w : World) (x : S49) {A1 : Option Addr} {c1 : Nat} (l1 : x.f1.length ≤ c1) (g1 : k49.C w A1 x.f1.length x.f1) : k49.K w x [.int .u8 x.f0, .slice A1 x.f1.length c1] := by
 obtain ⟨n1, q1⟩ := Kd.fix_C_back mono49 g1
 have r1 := Kd.upto_C_le mono49 sz49 (show n1 ≤ n1 by omega) q1
 exact ⟨n1 + 1, ⟨[.int .u8 x.f0], [.slice A1 x.f1.length c1], rfl, rfl, ⟨A1, c1, rfl, l1, r1⟩⟩⟩
def rd_T49 (xs : List S49) (i : Int) : S49 := xs.getD i.toNat z49
theorem at_T49 {w : World} {A : Option Addr} {n : Nat} {xs : List S49} (h : Kd.C k49 w A n xs) (i : Int) (h0 : 0 ≤ i) (h1 : i < n) : ∃ ad A1 c1, A = some ad ∧ w.cell? (ad.add (i.toNat * 2)) = some (.int .u8 (rd_T49 xs i).f0) ∧ w.cell? ⟨(ad.add (i.toNat * 2)).block, (ad.add (i.toNat * 2)).off + 1, none⟩ = some (.slice A1 (rd_T49 xs i).f1.length c1) ∧ (rd_T49 xs i).f1.length ≤ c1 ∧ k49.C w A1 (rd_T49 xs i).f1.length (rd_T49 xs i).f1 := by
 obtain ⟨ad, c, e, _, hK, hc0⟩ := Kd.C_get h z49 i h0 h1
 have hc : ∀ j u, c[j]? = some u → w.cell? (ad.add (i.toNat * 2 + j)) = some u := hc0
 obtain ⟨A1, c1, rfl, l1, g1⟩ := k49_open hK
 exact ⟨ad, A1, c1, e, hc 0 _ rfl, by rw [← add_field _ _ 1 (by omega)]; exact hc 1 _ rfl, l1, g1⟩


/-- A state of type 63 at block g of W; what its slices lead to came in by w0. -/
def IsS63 (w0 W : World) (g : Nat) (f0 : List Int) (f1 : Int) : Prop := ∃ A0 c0, W.heap[g]? = some (.cells #[.slice A0 f0.length c0, .int .i64 f1] 63 (0, 0)) ∧ w0.heap.size ≤ g ∧ Kd.C (Kd.int .u8) w0 A0 f0.length f0
theorem IsS63.grown {w0 W : World} {g : Nat} {f0 : List Int} {f1 : Int} {W1 : World} {row : Option Nat} (h : IsS63 w0 W g f0 f1) (hw : W.grownBy W1 row) (hne : some g ≠ row) : IsS63 w0 W1 g f0 f1 := by
 obtain ⟨A0, c0, hb, hg, hr0⟩ := h
 exact ⟨A0, c0, blk_grown hb hw hne, hg, hr0⟩
theorem IsS63.below {w0 W : World} {g : Nat} {f0 : List Int} {f1 : Int} {W1 : World} (h : IsS63 w0 W g f0 f1) (hw : Below W.heap.size W W1) : IsS63 w0 W1 g f0 f1 := h.grown (grown_of_below hw none) (by simp)
theorem IsS63.drewN {w0 W : World} {g : Nat} {f0 : List Int} {f1 : Int} (h : IsS63 w0 W g f0 f1) (m : Nat) : IsS63 w0 (W.drewN m) g f0 f1 := h
theorem IsS63.drew {w0 W : World} {g : Nat} {f0 : List Int} {f1 : Int} (h : IsS63 w0 W g f0 f1) : IsS63 w0 W.drew g f0 f1 := h
theorem IsS63.apart {w0 W : World} {g : Nat} {f0 : List Int} {f1 : Int} {α : Type} {d : Kd α} {e : Nat} {base : Nat} {ok : Nat → Prop} {v : Value} {xs : List α} (h : IsS63 w0 W g f0 f1) (ho : d.R e W base ok v xs) (ht : ∀ q, q ∈ e :: d.E → q ≠ 63) : d.R e W base (fun k => ok k ∧ k ≠ g) v xs := by
 obtain ⟨A0, c0, hb, hg, hr0⟩ := h
 exact bE ho hb ht
theorem IsS63.ge {w0 W : World} {g : Nat} {f0 : List Int} {f1 : Int} (h : IsS63 w0 W g f0 f1) : w0.heap.size ≤ g := by
 obtain ⟨A0, c0, hb, hg, hr0⟩ := h
 exact hg
theorem cellS63_0 {W : World} {g : Nat} {A0 : Option Addr} {c0 : Nat} {f0 : List Int} {f1 : Int} (h : W.heap[g]? = some (.cells #[.slice A0 f0.length c0, .int .i64 f1] 63 (0, 0))) : W.cell? ⟨g, 0, none⟩ = some (.slice A0 f0.length c0) := (aA h 0).trans rfl
theorem cellS63_1 {W : World} {g : Nat} {A0 : Option Addr} {c0 : Nat} {f0 : List Int} {f1 : Int} (h : W.heap[g]? = some (.cells #[.slice A0 f0.length c0, .int .i64 f1] 63 (0, 0))) : W.cell? ⟨g, 1, none⟩ = some (.int .i64 f1) := (aA h 1).trans rfl
theorem IsS63.set_1 {w0 W : World} {g : Nat} {f0 : List Int} {f1 : Int} (h : IsS63 w0 W g f0 f1) (x : Int) : IsS63 w0 (W.setCell ⟨g, 1, none⟩ (.int .i64 x)) g f0 x := by
 obtain ⟨A0, c0, hb, hg, hr0⟩ := h
 exact ⟨A0, c0, by simpa using cM hb 1 (.int .i64 x), hg, hr0⟩
def spec_l6Open.f (l0 : List Int) : Option (List Int × Int) := if (l0.length : Int) > 2000 then (if 2000 ≤ (l0.length : Int) then (some (l0.take 2000, 0)) else (none)) else (some (l0, 0))
set_option maxHeartbeats 8000000 in
set_option maxRecDepth 100000 in
theorem spec_l6Open.calls (A0 : Option Addr) (c0 : Nat) (l0 : List Int) (r1 : List Int) (r2 : Int) (w0 w : World) (hB : Below w0.heap.size w0 w) (hr0 : Kd.C (Kd.int .u8) w0 A0 l0.length l0) (hc0 : l0.length ≤ c0) (h : spec_l6Open.f l0 = some (r1, r2)) :
  Calls Try.prog 22 #[.slice A0 l0.length c0] w fun e w' => ∃ g_ : Nat, e = .returned (.pointer (some ⟨g_, 0, none⟩)) ∧ IsS63 w0 w' g_ r1 r2 ∧ Below w0.heap.size w0 w' ∧ Below w.heap.size w w' := by
 have HR0 := aM hr0
 have HC0 := aM hc0
 clear hr0 hc0
 have HBW := aM (cE w.heap.size w)
 have HW0 := aM hB.size
 have HB := aM hB
 clear hB
 have H : (if (l0.length : Int) > 2000 then (if 2000 ≤ (l0.length : Int) then (some (l0.take 2000, 0)) else (none)) else (some (l0, 0))) = some (r1, r2) := h
 clear h
 by_cases c2 : (l0.length : Int) > 2000
 ·rw [if_pos c2] at H
  have c2b0 : decide (2000 < (l0.length : Int)) = true := aH c2
  have c2b1 : decide (2000 < l0.length) = true := aH (by omega)
  clear c2
  by_cases c3 : 2000 ≤ (l0.length : Int)
  ·rw [if_pos c3] at H
   have c3b1 : decide (2000 ≤ (l0.length : Int)) = true := aH c3
   clear c3
   simp only [aV, aW] at H
   obtain ⟨rfl, rfl⟩ := H
   obtain ⟨i04, hi04, _, hsz4, _⟩ := info_parts info5
   obtain ⟨hcut4, hA4, hC4⟩ := print_take_of (P := Try.prog) (Value.int .u8) 0 22 5 .i64 Try.underlying22 hi04 hsz4 A0 c0 l0 2000 (by omega) (aJ (by (with_reducible assumption))) HC0.out
   have HR108 := aM (cP (h1 := fun _ => rfl) (hA4 _ (Kd.reads_of_C HR0.out)))
   clear hA4 hC4 hi04 hsz4
   go_enter Try.func22, Try.ntmps22
   go_wp2_with (first | ((with_reducible refine aZ (N := 10) rfl ?_); refine bB ?hg (N := 10) ?hd (cs := #[.slice A0 (l0.take 2000).length c0, .int .i64 0]) (t := 63) ?hr ?_; (case hd => rfl); (case hg => rfl); (case hr => first | (go_simp; done)); intro gb109 hg w5 hbox hb; replace HB := aM (aE HB.out hb); have BK109 := aM hbox; have GE109 := aM ((Nat.le_trans HW0.out (by rw [hg]; exact (aG HBW.out) : w.heap.size ≤ gb109) : w0.heap.size ≤ gb109)); replace HBW := aM (aE HBW.out hb); clear hb hbox hg))
   go_ret
   exact ⟨_, rfl, (show IsS63 w0 _ gb109 (l0.take 2000) 0 from ⟨_, _, by exact BK109.out, GE109.out, HR108.out⟩), HB.out, HBW.out⟩
  ·rw [if_neg c3] at H
   exact absurd H (by simp)
 ·rw [if_neg c2] at H
  have c2b0 : decide (2000 < (l0.length : Int)) = false := aK c2
  clear c2
  simp only [aV, aW] at H
  obtain ⟨rfl, rfl⟩ := H
  go_enter Try.func22, Try.ntmps22
  go_wp2_with (first | ((with_reducible refine aZ (N := 10) rfl ?_); refine bB ?hg (N := 10) ?hd (cs := #[.slice A0 l0.length c0, .int .i64 0]) (t := 63) ?hr ?_; (case hd => rfl); (case hg => rfl); (case hr => first | (go_simp; done)); intro gb110 hg w6 hbox hb; replace HB := aM (aE HB.out hb); have BK110 := aM hbox; have GE110 := aM ((Nat.le_trans HW0.out (by rw [hg]; exact (aG HBW.out) : w.heap.size ≤ gb110) : w0.heap.size ≤ gb110)); replace HBW := aM (aE HBW.out hb); clear hb hbox hg))
  go_ret
  exact ⟨_, rfl, (show IsS63 w0 _ gb110 l0 0 from ⟨_, _, by exact BK110.out, GE110.out, HR0.out⟩), HB.out, HBW.out⟩


def spec_l6Rd_pick.j0 : Nat → Int → Bool → List Int → Int → Option (Int × Int)
 | 0, _, _, _, _ => none
 | k + 1, x1, x24, x1000, x1001 => if x24 = true then (some (0, x1001)) else (if (wrap64 (x1001 - 1)) < (x1000.length : Int) then (if 0 ≤ (wrap64 (x1001 - 1)) then (if x1 = 0 then (none) else (some (Int.tmod (wrap64 (rd x1000 (wrap64 (x1001 - 1)))) x1, x1001))) else (none)) else (if (x1000.length : Int) = 0 then (none) else (if 0 ≤ (Int.tmod (wrap64 (x1001 - 1)) (x1000.length : Int)) then (if (Int.tmod (wrap64 (x1001 - 1)) (x1000.length : Int)) < (x1000.length : Int) then (if 0 ≤ (Int.tmod (wrap64 ((wrap64 ((wrap64 (x1001 - 1)) * 7)) + 3)) (x1000.length : Int)) then (if (Int.tmod (wrap64 ((wrap64 ((wrap64 (x1001 - 1)) * 7)) + 3)) (x1000.length : Int)) < (x1000.length : Int) then (if x1 = 0 then (none) else (some (Int.tmod (Go.bits .xor .i64 (wrap64 ((wrap64 ((wrap64 ((wrap64 ((wrap64 (rd x1000 (Int.tmod (wrap64 (x1001 - 1)) (x1000.length : Int)))) * 131)) + (wrap64 ((wrap64 (rd x1000 (Int.tmod (wrap64 ((wrap64 ((wrap64 (x1001 - 1)) * 7)) + 3)) (x1000.length : Int)))) * 1117)))) + (wrap64 ((wrap64 (x1001 - 1)) * 29)))) + (wrap64 ((wrap64 (Int.tdiv (wrap64 (x1001 - 1)) (x1000.length : Int))) * 53)))) (wrap64 (Int.tdiv (wrap64 ((wrap64 ((wrap64 ((wrap64 ((wrap64 (rd x1000 (Int.tmod (wrap64 (x1001 - 1)) (x1000.length : Int)))) * 131)) + (wrap64 ((wrap64 (rd x1000 (Int.tmod (wrap64 ((wrap64 ((wrap64 (x1001 - 1)) * 7)) + 3)) (x1000.length : Int)))) * 1117)))) + (wrap64 ((wrap64 (x1001 - 1)) * 29)))) + (wrap64 ((wrap64 (Int.tdiv (wrap64 (x1001 - 1)) (x1000.length : Int))) * 53)))) 64))) x1, x1001))) else (none)) else (none)) else (none)) else (none))))
def spec_l6Rd_pick.f (k : Nat) (s0_0 : List Int) (s0_1 : Int) (a1 : Int) : Option (Int × Int) := if a1 < 1 then (spec_l6Rd_pick.j0 k a1 true s0_0 (wrap64 (s0_1 + 1))) else (spec_l6Rd_pick.j0 k a1 ((s0_0.length : Int) == 0) s0_0 (wrap64 (s0_1 + 1)))
set_option maxHeartbeats 8000000 in
set_option maxRecDepth 100000 in
theorem spec_l6Rd_pick.calls (k : Nat) (g : Nat) (s0_0 : List Int) (s0_1 : Int) (a1 : Int) (r1 : Int) (r2 : Int) (w0 w : World) (hI : IsS63 w0 w g s0_0 s0_1) (hB : Below w0.heap.size w0 w) (h : spec_l6Rd_pick.f k s0_0 s0_1 a1 = some (r1, r2)) :
  Calls Try.prog 24 #[.pointer (some ⟨g, 0, none⟩), .int .i64 a1] w fun e w' => e = .returned (.int .i64 r1) ∧ IsS63 w0 w' g s0_0 r2 ∧ Below w0.heap.size w0 w' ∧ KeepBut w w' g none := by
 have HI0 := aM hI
 have HK := aM (KeepBut.refl w g none)
 clear hI
 have HB := aM hB
 clear hB
 have H : (if a1 < 1 then (spec_l6Rd_pick.j0 k a1 true s0_0 (wrap64 (s0_1 + 1))) else (spec_l6Rd_pick.j0 k a1 ((s0_0.length : Int) == 0) s0_0 (wrap64 (s0_1 + 1)))) = some (r1, r2) := h
 clear h
 have HC3 := aM H
 clear H
 obtain ⟨ASz4_0, cSz4_0, HGz4, hgz4, HSz4_0⟩ := HI0.out
 have hcz4_0 := cellS63_0 HGz4
 have hcz4_1 := cellS63_1 HGz4
 have hfz4_1 := aC HGz4 1
 clear HGz4 hgz4
 go_enter Try.func24, Try.ntmps24
 go_upto_region 2 with (fail)
 repeat (go_quiet (fail); go_upto_region 2 with (fail))
 go_cut [24] (fun v24 wc => ∃ (kq : Nat) (x24_2 : Bool), v24 = .bool x24_2 ∧ Aside0 (spec_l6Rd_pick.j0 kq a1 x24_2 s0_0 (wrap64 (s0_1 + 1)) = some (r1, r2)) ∧ Aside0 (kq ≤ k) ∧ Aside0 (IsS63 w0 wc g s0_0 (wrap64 (s0_1 + 1))) ∧ Aside0 (KeepBut w wc g none) ∧ Aside0 (Below w0.heap.size w0 wc))
 case first =>
  have H := HC3.out
  clear HC3
  by_cases c5 : a1 < 1
  ·rw [if_pos c5] at H
   have c5b0 : decide (a1 < 1) = true := aH c5
   clear c5
   have H' := aM H
   clear H
   go_wp2
   repeat (go_quiet (fail); try go_wp2)
   go_meet
   case rel => exact ⟨_, (true), (by rfl), H', ⟨by omega⟩, ⟨by repeat (first | (with_reducible first | exact HI0.out | apply IsS63.set_1))⟩, ⟨by repeat (first | (with_reducible first | exact HK.out | apply KeepBut.set_))⟩, ⟨by repeat (first | (with_reducible first | exact HB.out | refine bS ?_ (IsS63.ge HI0.out)))⟩⟩
  ·rw [if_neg c5] at H
   have c5b0 : decide (a1 < 1) = false := aK c5
   clear c5
   have H' := aM H
   clear H
   obtain ⟨ASz6_0, cSz6_0, HGz6, hgz6, HSz6_0⟩ := HI0.out
   clear HGz6 hgz6
   go_wp2
   repeat (go_quiet (fail); try go_wp2)
   go_meet
   case rel => exact ⟨_, (((s0_0.length : Int) == 0)), (by rfl), H', ⟨by omega⟩, ⟨by repeat (first | (with_reducible first | exact HI0.out | apply IsS63.set_1))⟩, ⟨by repeat (first | (with_reducible first | exact HK.out | apply KeepBut.set_))⟩, ⟨by repeat (first | (with_reducible first | exact HB.out | refine bS ?_ (IsS63.ge HI0.out)))⟩⟩
 case rest =>
  clear HC3
  try clear hcz4_0
  try clear hcz4_1
  try clear hfz4_1
  obtain ⟨kq, x24_2, rfl, HA, HJ2, HI0, HK, HB⟩ := hcut
  cases kq with
  | zero => exact absurd HA.out (by simp [spec_l6Rd_pick.j0])
  | succ kj2 =>
   have H := HA.out
   clear HA
   simp only [spec_l6Rd_pick.j0] at H
   by_cases c7 : x24_2 = true
   ·subst c7
    replace H : (some (0, (wrap64 (s0_1 + 1)))) = some (r1, r2) := by rw [if_pos rfl] at H; exact H
    simp only [aV, aW] at H
    obtain ⟨rfl, rfl⟩ := H
    go_wp2
    repeat (go_quiet (fail); try go_wp2)
    go_ret
    exact ⟨by first | rfl | (simp [*, errW_none, errW_some] <;> rfl), HI0.out, HB.out, HK.out⟩
   ·replace c7 := Bool.eq_false_iff.mpr c7
    subst c7
    replace H : (if (wrap64 ((wrap64 (s0_1 + 1)) - 1)) < (s0_0.length : Int) then (if 0 ≤ (wrap64 ((wrap64 (s0_1 + 1)) - 1)) then (if a1 = 0 then (none) else (some (Int.tmod (wrap64 (rd s0_0 (wrap64 ((wrap64 (s0_1 + 1)) - 1)))) a1, (wrap64 (s0_1 + 1))))) else (none)) else (if (s0_0.length : Int) = 0 then (none) else (if 0 ≤ (Int.tmod (wrap64 ((wrap64 (s0_1 + 1)) - 1)) (s0_0.length : Int)) then (if (Int.tmod (wrap64 ((wrap64 (s0_1 + 1)) - 1)) (s0_0.length : Int)) < (s0_0.length : Int) then (if 0 ≤ (Int.tmod (wrap64 ((wrap64 ((wrap64 ((wrap64 (s0_1 + 1)) - 1)) * 7)) + 3)) (s0_0.length : Int)) then (if (Int.tmod (wrap64 ((wrap64 ((wrap64 ((wrap64 (s0_1 + 1)) - 1)) * 7)) + 3)) (s0_0.length : Int)) < (s0_0.length : Int) then (if a1 = 0 then (none) else (some (Int.tmod (Go.bits .xor .i64 (wrap64 ((wrap64 ((wrap64 ((wrap64 ((wrap64 (rd s0_0 (Int.tmod (wrap64 ((wrap64 (s0_1 + 1)) - 1)) (s0_0.length : Int)))) * 131)) + (wrap64 ((wrap64 (rd s0_0 (Int.tmod (wrap64 ((wrap64 ((wrap64 ((wrap64 (s0_1 + 1)) - 1)) * 7)) + 3)) (s0_0.length : Int)))) * 1117)))) + (wrap64 ((wrap64 ((wrap64 (s0_1 + 1)) - 1)) * 29)))) + (wrap64 ((wrap64 (Int.tdiv (wrap64 ((wrap64 (s0_1 + 1)) - 1)) (s0_0.length : Int))) * 53)))) (wrap64 (Int.tdiv (wrap64 ((wrap64 ((wrap64 ((wrap64 ((wrap64 (rd s0_0 (Int.tmod (wrap64 ((wrap64 (s0_1 + 1)) - 1)) (s0_0.length : Int)))) * 131)) + (wrap64 ((wrap64 (rd s0_0 (Int.tmod (wrap64 ((wrap64 ((wrap64 ((wrap64 (s0_1 + 1)) - 1)) * 7)) + 3)) (s0_0.length : Int)))) * 1117)))) + (wrap64 ((wrap64 ((wrap64 (s0_1 + 1)) - 1)) * 29)))) + (wrap64 ((wrap64 (Int.tdiv (wrap64 ((wrap64 (s0_1 + 1)) - 1)) (s0_0.length : Int))) * 53)))) 64))) a1, (wrap64 (s0_1 + 1))))) else (none)) else (none)) else (none)) else (none)))) = some (r1, r2) := by rw [if_neg (show ¬ (false = true) by decide)] at H; exact H
    by_cases c8 : (wrap64 ((wrap64 (s0_1 + 1)) - 1)) < (s0_0.length : Int)
    ·rw [if_pos c8] at H
     have c8b0 : decide ((wrap64 ((wrap64 (s0_1 + 1)) - 1)) < (s0_0.length : Int)) = true := aH c8
     clear c8
     obtain ⟨ji9, hji9⟩ : ∃ j_ : Int, (wrap64 ((wrap64 (s0_1 + 1)) - 1)) = j_ := ⟨_, rfl⟩
     replace H : (if 0 ≤ (ji9) then (if a1 = 0 then (none) else (some (Int.tmod (wrap64 (rd s0_0 (ji9))) a1, (wrap64 (s0_1 + 1))))) else (none)) = some (r1, r2) := by first | (rw [hji9] at H; exact H)
     (try rw [hji9] at c8b0)
     have hji9w : (IntKind.i64.wrap ((wrap64 (s0_1 + 1)) - 1)) = ji9 := (cS _).trans hji9
     by_cases c10 : 0 ≤ (ji9)
     ·rw [if_pos c10] at H
      have c10b0 : decide (0 ≤ (ji9)) = true := aH c10
      clear c10
      by_cases c11 : a1 = 0
      ·rw [if_pos c11] at H
       exact absurd H (by simp)
      ·rw [if_neg c11] at H
       simp only [aV, aW] at H
       obtain ⟨rfl, rfl⟩ := H
       obtain ⟨ASz12_0, cSz12_0, HGz12, hgz12, HSz12_0⟩ := HI0.out
       have hcz12_0 := cellS63_0 HGz12
       have hcz12_1 := cellS63_1 HGz12
       clear HGz12 hgz12
       have p111 : 0 ≤ ((ji9) : Int) := aJ (by (with_reducible assumption))
       have q111 : (ji9) < (s0_0.length : Int) := aJ (by (with_reducible assumption))
       obtain ⟨ad111, e111, hx111_0⟩ := Kd.at_int HSz12_0 (ji9) p111 q111
       cases e111
       replace hx111_0 := cN HB.out hx111_0
       replace p111 := eq_true p111
       replace q111 := eq_true q111
       go_wp2
       repeat (go_quiet (fail); try go_wp2)
       go_ret
       exact ⟨by first | rfl | (simp [*, errW_none, errW_some] <;> rfl), HI0.out, HB.out, HK.out⟩
     ·rw [if_neg c10] at H
      exact absurd H (by simp)
    ·rw [if_neg c8] at H
     have c8b0 : decide ((wrap64 ((wrap64 (s0_1 + 1)) - 1)) < (s0_0.length : Int)) = false := aK c8
     clear c8
     by_cases c13 : (s0_0.length : Int) = 0
     ·rw [if_pos c13] at H
      exact absurd H (by simp)
     ·rw [if_neg c13] at H
      have c13b2 : ¬ (s0_0 = []) := fun h_ => c13 (by rw [h_]; rfl)
      obtain ⟨ji14, hji14⟩ : ∃ j_ : Int, (Int.tmod (wrap64 ((wrap64 (s0_1 + 1)) - 1)) (s0_0.length : Int)) = j_ := ⟨_, rfl⟩
      replace H : (if 0 ≤ (ji14) then (if (ji14) < (s0_0.length : Int) then (if 0 ≤ (Int.tmod (wrap64 ((wrap64 ((wrap64 ((wrap64 (s0_1 + 1)) - 1)) * 7)) + 3)) (s0_0.length : Int)) then (if (Int.tmod (wrap64 ((wrap64 ((wrap64 ((wrap64 (s0_1 + 1)) - 1)) * 7)) + 3)) (s0_0.length : Int)) < (s0_0.length : Int) then (if a1 = 0 then (none) else (some (Int.tmod (Go.bits .xor .i64 (wrap64 ((wrap64 ((wrap64 ((wrap64 ((wrap64 (rd s0_0 (ji14))) * 131)) + (wrap64 ((wrap64 (rd s0_0 (Int.tmod (wrap64 ((wrap64 ((wrap64 ((wrap64 (s0_1 + 1)) - 1)) * 7)) + 3)) (s0_0.length : Int)))) * 1117)))) + (wrap64 ((wrap64 ((wrap64 (s0_1 + 1)) - 1)) * 29)))) + (wrap64 ((wrap64 (Int.tdiv (wrap64 ((wrap64 (s0_1 + 1)) - 1)) (s0_0.length : Int))) * 53)))) (wrap64 (Int.tdiv (wrap64 ((wrap64 ((wrap64 ((wrap64 ((wrap64 (rd s0_0 (ji14))) * 131)) + (wrap64 ((wrap64 (rd s0_0 (Int.tmod (wrap64 ((wrap64 ((wrap64 ((wrap64 (s0_1 + 1)) - 1)) * 7)) + 3)) (s0_0.length : Int)))) * 1117)))) + (wrap64 ((wrap64 ((wrap64 (s0_1 + 1)) - 1)) * 29)))) + (wrap64 ((wrap64 (Int.tdiv (wrap64 ((wrap64 (s0_1 + 1)) - 1)) (s0_0.length : Int))) * 53)))) 64))) a1, (wrap64 (s0_1 + 1))))) else (none)) else (none)) else (none)) else (none)) = some (r1, r2) := by first | (rw [hji14] at H; exact H)
      by_cases c15 : 0 ≤ (ji14)
      ·rw [if_pos c15] at H
       have c15b0 : decide (0 ≤ (ji14)) = true := aH c15
       clear c15
       by_cases c16 : (ji14) < (s0_0.length : Int)
       ·rw [if_pos c16] at H
        have c16b0 : decide ((ji14) < (s0_0.length : Int)) = true := aH c16
        clear c16
        obtain ⟨ji17, hji17⟩ : ∃ j_ : Int, (Int.tmod (wrap64 ((wrap64 ((wrap64 ((wrap64 (s0_1 + 1)) - 1)) * 7)) + 3)) (s0_0.length : Int)) = j_ := ⟨_, rfl⟩
        replace H : (if 0 ≤ (ji17) then (if (ji17) < (s0_0.length : Int) then (if a1 = 0 then (none) else (some (Int.tmod (Go.bits .xor .i64 (wrap64 ((wrap64 ((wrap64 ((wrap64 ((wrap64 (rd s0_0 (ji14))) * 131)) + (wrap64 ((wrap64 (rd s0_0 (ji17))) * 1117)))) + (wrap64 ((wrap64 ((wrap64 (s0_1 + 1)) - 1)) * 29)))) + (wrap64 ((wrap64 (Int.tdiv (wrap64 ((wrap64 (s0_1 + 1)) - 1)) (s0_0.length : Int))) * 53)))) (wrap64 (Int.tdiv (wrap64 ((wrap64 ((wrap64 ((wrap64 ((wrap64 (rd s0_0 (ji14))) * 131)) + (wrap64 ((wrap64 (rd s0_0 (ji17))) * 1117)))) + (wrap64 ((wrap64 ((wrap64 (s0_1 + 1)) - 1)) * 29)))) + (wrap64 ((wrap64 (Int.tdiv (wrap64 ((wrap64 (s0_1 + 1)) - 1)) (s0_0.length : Int))) * 53)))) 64))) a1, (wrap64 (s0_1 + 1))))) else (none)) else (none)) = some (r1, r2) := by first | (rw [hji17] at H; exact H)
        by_cases c18 : 0 ≤ (ji17)
        ·rw [if_pos c18] at H
         have c18b0 : decide (0 ≤ (ji17)) = true := aH c18
         clear c18
         by_cases c19 : (ji17) < (s0_0.length : Int)
         ·rw [if_pos c19] at H
          have c19b0 : decide ((ji17) < (s0_0.length : Int)) = true := aH c19
          clear c19
          by_cases c20 : a1 = 0
          ·rw [if_pos c20] at H
           exact absurd H (by simp)
          ·rw [if_neg c20] at H
           simp only [aV, aW] at H
           obtain ⟨rfl, rfl⟩ := H
           obtain ⟨ASz21_0, cSz21_0, HGz21, hgz21, HSz21_0⟩ := HI0.out
           have hcz21_0 := cellS63_0 HGz21
           have hcz21_1 := cellS63_1 HGz21
           clear HGz21 hgz21
           have p112 : 0 ≤ ((ji14) : Int) := aJ (by (with_reducible assumption))
           have q112 : (ji14) < (s0_0.length : Int) := aJ (by (with_reducible assumption))
           obtain ⟨ad112, e112, hx112_0⟩ := Kd.at_int HSz21_0 (ji14) p112 q112
           cases e112
           replace hx112_0 := cN HB.out hx112_0
           replace p112 := eq_true p112
           replace q112 := eq_true q112
           have p113 : 0 ≤ ((ji17) : Int) := aJ (by (with_reducible assumption))
           have q113 : (ji17) < (s0_0.length : Int) := aJ (by (with_reducible assumption))
           obtain ⟨ad113, e113, hx113_0⟩ := Kd.at_int HSz21_0 (ji17) p113 q113
           obtain rfl : ad112 = ad113 := (by injection e113)
           replace hx113_0 := cN HB.out hx113_0
           replace p113 := eq_true p113
           replace q113 := eq_true q113
           go_wp2
           repeat (go_quiet (fail); try go_wp2)
           go_ret
           exact ⟨by first | rfl | (simp [*, errW_none, errW_some] <;> rfl), by repeat (first | (with_reducible first | exact HI0.out | apply IsS63.drewN)), by repeat (first | (with_reducible first | exact HB.out | apply bN)), by repeat (first | (with_reducible first | exact HK.out | apply keep_drewN))⟩
         ·rw [if_neg c19] at H
          exact absurd H (by simp)
        ·rw [if_neg c18] at H
         exact absurd H (by simp)
       ·rw [if_neg c16] at H
        exact absurd H (by simp)
      ·rw [if_neg c15] at H
       exact absurd H (by simp)


mutual
def spec_l91Term.j0 : Nat → Int → Bool → List Int → Int → Option (ByteArray × Int)
 | 0, _, _, _, _ => none
 | k + 1, x1, x11, x1000, x1001 => if x11 = true then ((some (([(⟨#[48]⟩ : ByteArray), (⟨#[49]⟩ : ByteArray), (⟨#[97]⟩ : ByteArray), (⟨#[97]⟩ : ByteArray)] : List ByteArray) : List ByteArray)).bind fun y116 => ((spec_l6Rd_pick.f k x1000 x1001 4).bind fun bt119 => (if 0 ≤ bt119.1 then (if bt119.1 < (y116.length : Int) then (some (rdOf ByteArray.empty y116 bt119.1, bt119.2)) else (none)) else (none)))) else ((spec_l6Rd_pick.f k x1000 x1001 6).bind fun bt122 => (if bt122.1 = 0 then ((spec_l91Term.f k x1000 bt122.2 (wrap64 (x1 - 1))).bind fun bt124 => (if 1 + bt124.1.size ≤ 9223372036854775807 then (some ((⟨#[42]⟩ : ByteArray) ++ bt124.1, bt124.2)) else (none))) else (if bt122.1 = 1 then ((some (([(⟨#[50]⟩ : ByteArray), (⟨#[51]⟩ : ByteArray), (⟨#[52]⟩ : ByteArray), (⟨#[53]⟩ : ByteArray)] : List ByteArray) : List ByteArray)).bind fun y126 => ((spec_l6Rd_pick.f k x1000 bt122.2 4).bind fun bt129 => (if 0 ≤ bt129.1 then (if bt129.1 < (y126.length : Int) then ((spec_l91Term.f k x1000 bt129.2 (wrap64 (x1 - 1))).bind fun bt132 => (if (rdOf ByteArray.empty y126 bt129.1).size + bt132.1.size ≤ 9223372036854775807 then (some ((rdOf ByteArray.empty y126 bt129.1) ++ bt132.1, bt132.2)) else (none))) else (none)) else (none)))) else ((spec_l91Term.f k x1000 bt122.2 (wrap64 (x1 - 1))).bind fun bt134 => (if 1 + bt134.1.size ≤ 9223372036854775807 then ((some (([(⟨#[43]⟩ : ByteArray), (⟨#[43]⟩ : ByteArray), (⟨#[46]⟩ : ByteArray), (⟨#[38]⟩ : ByteArray)] : List ByteArray) : List ByteArray)).bind fun y136 => ((spec_l6Rd_pick.f k x1000 bt134.2 4).bind fun bt139 => (if 0 ≤ bt139.1 then (if bt139.1 < (y136.length : Int) then (if 1 + bt134.1.size + (rdOf ByteArray.empty y136 bt139.1).size ≤ 9223372036854775807 then ((spec_l91Term.f k x1000 bt139.2 (wrap64 (x1 - 1))).bind fun bt142 => (if 1 + bt134.1.size + (rdOf ByteArray.empty y136 bt139.1).size + bt142.1.size ≤ 9223372036854775807 then (if 1 + bt134.1.size + (rdOf ByteArray.empty y136 bt139.1).size + bt142.1.size + 1 ≤ 9223372036854775807 then (some (((((⟨#[40]⟩ : ByteArray) ++ bt134.1) ++ (rdOf ByteArray.empty y136 bt139.1)) ++ bt142.1) ++ (⟨#[41]⟩ : ByteArray), bt142.2)) else (none)) else (none))) else (none)) else (none)) else (none)))) else (none))))))
def spec_l91Term.f : Nat → List Int → Int → Int → Option (ByteArray × Int)
 | 0, _, _, _ => none
 | k + 1, s0_0, s0_1, a1 => if a1 = 0 then (spec_l91Term.j0 k a1 true s0_0 s0_1) else ((spec_l6Rd_pick.f k s0_0 s0_1 5).bind fun bt114 => (spec_l91Term.j0 k a1 (bt114.1 == 0) s0_0 bt114.2))
end
def spec_l91Term.T7 : Bool × List (List Nat × List Nat) := (true, [([], []), ([], []), ([1], [1]), ([0, 2], [0, 2]), ([3], [3]), ([], []), ([], []), ([6], [6]), ([5, 7, 2], [5, 7]), ([4, 8], [4, 8]), ([9, 8, 0, 1, 2, 3, 4, 5, 6, 7, 8, 9], [9])])
def spec_l91Term.B7 : List Nat := [0, 0, 2, 7, 15, 0, 0, 64, 230, 511, 1023]
theorem spec_l91Term.tab7 : rtab .any (opsOf Try.f38 7) = spec_l91Term.T7 := by kernel_rfl
theorem spec_l91Term.bits7 : waitsOk spec_l91Term.T7.2 spec_l91Term.B7 = true := by kernel_rfl
def spec_l91Term.T8 : Bool × List (List Nat × List Nat) := (true, [([], []), ([], []), ([1], [1]), ([0, 2], [0, 2]), ([3], [3]), ([], []), ([], []), ([6, 3], [6]), ([5, 7], [5, 7]), ([8], [8]), ([4, 9], [4, 9]), ([], []), ([], []), ([12], [12]), ([11, 13, 7], [11, 13]), ([10, 14], [10, 14]), ([15], [15]), ([16, 14, 0, 1, 2, 3, 4, 5, 6, 7, 8, 9, 10, 11, 12, 13, 14, 15, 16], [16])])
def spec_l91Term.B8 : List Nat := [0, 0, 2, 7, 15, 0, 0, 79, 239, 495, 1023, 0, 0, 4096, 14543, 32767, 65535, 131071]
theorem spec_l91Term.tab8 : rtab .any (opsOf Try.f38 8) = spec_l91Term.T8 := by kernel_rfl
theorem spec_l91Term.bits8 : waitsOk spec_l91Term.T8.2 spec_l91Term.B8 = true := by kernel_rfl
set_option maxHeartbeats 8000000 in
set_option maxRecDepth 100000 in
theorem spec_l91Term.calls (k : Nat) : ∀ (g : Nat) (s0_0 : List Int) (s0_1 : Int) (a1 : Int) (r1 : ByteArray) (r2 : Int) (w0 w : World) (hI : IsS63 w0 w g s0_0 s0_1) (hB : Below w0.heap.size w0 w) (h : spec_l91Term.f k s0_0 s0_1 a1 = some (r1, r2)),
  Calls Try.prog 38 #[.pointer (some ⟨g, 0, none⟩), .int .i64 a1] w fun e w' => e = .returned (.string r1) ∧ IsS63 w0 w' g s0_0 r2 ∧ Below w0.heap.size w0 w' ∧ KeepBut w w' g none := by
 induction k using Nat.strongRecOn with
 | _ k ih =>
 intro g s0_0 s0_1 a1 r1 r2 w0 w hI hB h
 cases k with
 | zero => exact absurd h (by simp [spec_l91Term.f])
 | succ k =>
 simp only [spec_l91Term.f] at h
 have HI0 := aM hI
 have HK := aM (KeepBut.refl w g none)
 clear hI
 have HB := aM hB
 clear hB
 have H : (if a1 = 0 then (spec_l91Term.j0 k a1 true s0_0 s0_1) else ((spec_l6Rd_pick.f k s0_0 s0_1 5).bind fun bt114 => (spec_l91Term.j0 k a1 (bt114.1 == 0) s0_0 bt114.2))) = some (r1, r2) := h
 clear h
 have HC3 := aM H
 clear H
 go_enter Try.func38, Try.ntmps38
 go_upto_region 1 with (fail)
 go_cut [11] (fun v11 wc => ∃ (kq : Nat) (x11_2 : Bool) (x1001_2 : Int), v11 = .bool x11_2 ∧ Aside0 (spec_l91Term.j0 kq a1 x11_2 s0_0 x1001_2 = some (r1, r2)) ∧ Aside0 (kq ≤ k) ∧ Aside0 (IsS63 w0 wc g s0_0 x1001_2) ∧ Aside0 (KeepBut w wc g none) ∧ Aside0 (Below w0.heap.size w0 wc))
 case first =>
  have H := HC3.out
  clear HC3
  by_cases c4 : a1 = 0
  ·rw [if_pos c4] at H
   have c4b0 : (a1 == 0) = true := beq_iff_eq.mpr c4
   clear c4
   have H' := aM H
   clear H
   go_wp2
   go_meet
   case rel => exact ⟨_, (true), (s0_1), (by rfl), H', ⟨by omega⟩, ⟨HI0.out⟩, ⟨HK.out⟩, ⟨HB.out⟩⟩
  ·rw [if_neg c4] at H
   have c4b0 : (a1 == 0) = false := beq_eq_false_iff_ne.mpr c4
   replace H := Option.bind_eq_some_iff.mp H
   obtain ⟨⟨t114, t115⟩, A50, H⟩ := H
   replace H : (spec_l91Term.j0 k a1 (t114 == 0) s0_0 t115) = some (r1, r2) := H
   have A5 := aM A50
   clear A50
   have H' := aM H
   clear H
   go_wp2_with (first | (go_at_call 24; (with_reducible refine (spec_l6Rd_pick.calls k g s0_0 s0_1 5 t114 t115 w0 _ ?side1 ?side2 A5.out).mono ?_); (case side1 => repeat ((with_reducible exact HI0.out))); (case side2 => repeat ((with_reducible exact HB.out))); rintro e w6 ⟨rfl, hi, hb, hk⟩; replace HK := aM (cK HK.out hk (.inl rfl)); replace HB := aM hb; replace HI0 := aM hi; (try clear hb); (try clear hk); (try clear hi)))
   go_meet
   case rel => exact ⟨_, ((t114 == 0)), (t115), (by rfl), H', ⟨by omega⟩, ⟨HI0.out⟩, ⟨HK.out⟩, ⟨HB.out⟩⟩
 case rest =>
  clear HC3
  obtain ⟨kq, x11_2, x1001_2, rfl, HA, HJ2, HI0, HK, HB⟩ := hcut
  cases kq with
  | zero => exact absurd HA.out (by simp [spec_l91Term.j0])
  | succ kj2 =>
   have H := HA.out
   clear HA
   simp only [spec_l91Term.j0] at H
   by_cases c7 : x11_2 = true
   ·subst c7
    replace H : ((some (([(⟨#[48]⟩ : ByteArray), (⟨#[49]⟩ : ByteArray), (⟨#[97]⟩ : ByteArray), (⟨#[97]⟩ : ByteArray)] : List ByteArray) : List ByteArray)).bind fun y116 => ((spec_l6Rd_pick.f kj2 s0_0 x1001_2 4).bind fun bt119 => (if 0 ≤ bt119.1 then (if bt119.1 < (y116.length : Int) then (some (rdOf ByteArray.empty y116 bt119.1, bt119.2)) else (none)) else (none)))) = some (r1, r2) := by rw [if_pos rfl] at H; exact H
    obtain ⟨y116, hy116⟩ : ∃ y_ : List ByteArray, y_ = (([(⟨#[48]⟩ : ByteArray), (⟨#[49]⟩ : ByteArray), (⟨#[97]⟩ : ByteArray), (⟨#[97]⟩ : ByteArray)] : List ByteArray)) := ⟨_, rfl⟩
    replace H : ((spec_l6Rd_pick.f kj2 s0_0 x1001_2 4).bind fun bt119 => (if 0 ≤ bt119.1 then (if bt119.1 < (y116.length : Int) then (some (rdOf ByteArray.empty y116 bt119.1, bt119.2)) else (none)) else (none))) = some (r1, r2) := by first | (have H2_ := (bR _ _).symm.trans H; rw [hy116]; with_reducible exact H2_)
    have Ny116 := aM hy116
    clear hy116
    replace H := Option.bind_eq_some_iff.mp H
    obtain ⟨⟨t119, t120⟩, A80, H⟩ := H
    replace H : (if 0 ≤ t119 then (if t119 < (y116.length : Int) then (some (rdOf ByteArray.empty y116 t119, t120)) else (none)) else (none)) = some (r1, r2) := H
    have A8 := aM A80
    clear A80
    by_cases c9 : 0 ≤ t119
    ·rw [if_pos c9] at H
     have c9b0 : decide (0 ≤ t119) = true := aH c9
     clear c9
     by_cases c10 : t119 < (y116.length : Int)
     ·rw [if_pos c10] at H
      have c10b0 : decide (t119 < (y116.length : Int)) = true := aH c10
      clear c10
      simp only [aV, aW] at H
      obtain ⟨rfl, rfl⟩ := H
      go_wp2_with (first | ((with_reducible refine aZ (N := 12) rfl ?_); refine Kd.R_lit Kd.string _ 9 ?hg (N := 12) ?hd (xs := ([(⟨#[48]⟩ : ByteArray), (⟨#[49]⟩ : ByteArray), (⟨#[97]⟩ : ByteArray), (⟨#[97]⟩ : ByteArray)] : List ByteArray)) (inner := [.string (⟨#[48]⟩ : ByteArray), .string (⟨#[49]⟩ : ByteArray), .string (⟨#[97]⟩ : ByteArray), .string (⟨#[97]⟩ : ByteArray)]) (ok := fun _ => True) (okp := fun _ => True) ?hr ?hp (fun _ hk => hk) trivial (cE _ _) (cD _) (by simp) ?_; (case hd => rfl); (case hg => rfl); (case hr => first | (go_simp; done)); (case hp => exact (Reps.one (show Kd.M Kd.string _ _ _ (⟨#[48]⟩ : ByteArray) [.string (⟨#[48]⟩ : ByteArray)] from rfl) (Reps.one (show Kd.M Kd.string _ _ _ (⟨#[49]⟩ : ByteArray) [.string (⟨#[49]⟩ : ByteArray)] from rfl) (Reps.one (show Kd.M Kd.string _ _ _ (⟨#[97]⟩ : ByteArray) [.string (⟨#[97]⟩ : ByteArray)] from rfl) (Reps.one (show Kd.M Kd.string _ _ _ (⟨#[97]⟩ : ByteArray) [.string (⟨#[97]⟩ : ByteArray)] from rfl) (Reps.none _ _)))))); intro v117 w11 ho12 hb hg_ hnew_; clear hg_ hnew_; (rw [← Ny116.out] at ho12); have HO118 := aM (bP ho12 (keep_size (w := w) (g := g) (row := none) HK.out)); replace HI0 := aM (IsS63.below HI0.out hb); replace HK := aM (cK HK.out (KeepBut.of_below hb g none) (.inl rfl)); replace HB := aM (aE HB.out hb); clear hb ho12) | ((with_reducible refine aY (f := 24) rfl ?_); refine gL 14 Try.func24 #[.pointer (some ⟨g, 0, none⟩), .int .i64 4] ?_; (with_reducible refine (spec_l6Rd_pick.calls kj2 g s0_0 x1001_2 4 t119 t120 w0 _ ?side1 ?side2 A8.out).mono ?_); (case side1 => repeat ((with_reducible exact HI0.out))); (case side2 => repeat ((with_reducible exact HB.out))); rintro e w13 ⟨rfl, hi, hb, hk⟩; refine ⟨_, rfl, ?_⟩; replace HO118 := aM (bJ (cH (IsS63.apart (show IsS63 w0 _ g s0_0 x1001_2 from by repeat ((with_reducible exact HI0.out))) HO118.out (by decide)) hk (fun _ h => h.2)) (fun _ h => h.1)); replace HK := aM (cK HK.out hk (.inl rfl)); replace HB := aM hb; replace HI0 := aM hi; (try clear hb); (try clear hk); (try clear hi); obtain ⟨Ao14, co14, eo14⟩ := bL HO118.out; subst eo14; have p121 : 0 ≤ (t119 : Int) := aJ (by (with_reducible assumption)); have q121 : t119 < (y116.length : Int) := aJ (by (with_reducible assumption)); obtain ⟨ad121, e121, hx121_0⟩ := cR (bM HO118.out).2.2 t119 p121 q121; cases e121; replace p121 := eq_true p121; replace q121 := eq_true q121))
      go_ret
      exact ⟨by first | rfl | (simp [*, errW_none, errW_some] <;> rfl), HI0.out, HB.out, HK.out⟩
     ·rw [if_neg c10] at H
      exact absurd H (by simp)
    ·rw [if_neg c9] at H
     exact absurd H (by simp)
   ·replace c7 := Bool.eq_false_iff.mpr c7
    subst c7
    replace H : ((spec_l6Rd_pick.f kj2 s0_0 x1001_2 6).bind fun bt122 => (if bt122.1 = 0 then ((spec_l91Term.f kj2 s0_0 bt122.2 (wrap64 (a1 - 1))).bind fun bt124 => (if 1 + bt124.1.size ≤ 9223372036854775807 then (some ((⟨#[42]⟩ : ByteArray) ++ bt124.1, bt124.2)) else (none))) else (if bt122.1 = 1 then ((some (([(⟨#[50]⟩ : ByteArray), (⟨#[51]⟩ : ByteArray), (⟨#[52]⟩ : ByteArray), (⟨#[53]⟩ : ByteArray)] : List ByteArray) : List ByteArray)).bind fun y126 => ((spec_l6Rd_pick.f kj2 s0_0 bt122.2 4).bind fun bt129 => (if 0 ≤ bt129.1 then (if bt129.1 < (y126.length : Int) then ((spec_l91Term.f kj2 s0_0 bt129.2 (wrap64 (a1 - 1))).bind fun bt132 => (if (rdOf ByteArray.empty y126 bt129.1).size + bt132.1.size ≤ 9223372036854775807 then (some ((rdOf ByteArray.empty y126 bt129.1) ++ bt132.1, bt132.2)) else (none))) else (none)) else (none)))) else ((spec_l91Term.f kj2 s0_0 bt122.2 (wrap64 (a1 - 1))).bind fun bt134 => (if 1 + bt134.1.size ≤ 9223372036854775807 then ((some (([(⟨#[43]⟩ : ByteArray), (⟨#[43]⟩ : ByteArray), (⟨#[46]⟩ : ByteArray), (⟨#[38]⟩ : ByteArray)] : List ByteArray) : List ByteArray)).bind fun y136 => ((spec_l6Rd_pick.f kj2 s0_0 bt134.2 4).bind fun bt139 => (if 0 ≤ bt139.1 then (if bt139.1 < (y136.length : Int) then (if 1 + bt134.1.size + (rdOf ByteArray.empty y136 bt139.1).size ≤ 9223372036854775807 then ((spec_l91Term.f kj2 s0_0 bt139.2 (wrap64 (a1 - 1))).bind fun bt142 => (if 1 + bt134.1.size + (rdOf ByteArray.empty y136 bt139.1).size + bt142.1.size ≤ 9223372036854775807 then (if 1 + bt134.1.size + (rdOf ByteArray.empty y136 bt139.1).size + bt142.1.size + 1 ≤ 9223372036854775807 then (some (((((⟨#[40]⟩ : ByteArray) ++ bt134.1) ++ (rdOf ByteArray.empty y136 bt139.1)) ++ bt142.1) ++ (⟨#[41]⟩ : ByteArray), bt142.2)) else (none)) else (none))) else (none)) else (none)) else (none)))) else (none)))))) = some (r1, r2) := by rw [if_neg (show ¬ (false = true) by decide)] at H; exact H
    replace H := Option.bind_eq_some_iff.mp H
    obtain ⟨⟨t122, t123⟩, A150, H⟩ := H
    replace H : (if t122 = 0 then ((spec_l91Term.f kj2 s0_0 t123 (wrap64 (a1 - 1))).bind fun bt124 => (if 1 + bt124.1.size ≤ 9223372036854775807 then (some ((⟨#[42]⟩ : ByteArray) ++ bt124.1, bt124.2)) else (none))) else (if t122 = 1 then ((some (([(⟨#[50]⟩ : ByteArray), (⟨#[51]⟩ : ByteArray), (⟨#[52]⟩ : ByteArray), (⟨#[53]⟩ : ByteArray)] : List ByteArray) : List ByteArray)).bind fun y126 => ((spec_l6Rd_pick.f kj2 s0_0 t123 4).bind fun bt129 => (if 0 ≤ bt129.1 then (if bt129.1 < (y126.length : Int) then ((spec_l91Term.f kj2 s0_0 bt129.2 (wrap64 (a1 - 1))).bind fun bt132 => (if (rdOf ByteArray.empty y126 bt129.1).size + bt132.1.size ≤ 9223372036854775807 then (some ((rdOf ByteArray.empty y126 bt129.1) ++ bt132.1, bt132.2)) else (none))) else (none)) else (none)))) else ((spec_l91Term.f kj2 s0_0 t123 (wrap64 (a1 - 1))).bind fun bt134 => (if 1 + bt134.1.size ≤ 9223372036854775807 then ((some (([(⟨#[43]⟩ : ByteArray), (⟨#[43]⟩ : ByteArray), (⟨#[46]⟩ : ByteArray), (⟨#[38]⟩ : ByteArray)] : List ByteArray) : List ByteArray)).bind fun y136 => ((spec_l6Rd_pick.f kj2 s0_0 bt134.2 4).bind fun bt139 => (if 0 ≤ bt139.1 then (if bt139.1 < (y136.length : Int) then (if 1 + bt134.1.size + (rdOf ByteArray.empty y136 bt139.1).size ≤ 9223372036854775807 then ((spec_l91Term.f kj2 s0_0 bt139.2 (wrap64 (a1 - 1))).bind fun bt142 => (if 1 + bt134.1.size + (rdOf ByteArray.empty y136 bt139.1).size + bt142.1.size ≤ 9223372036854775807 then (if 1 + bt134.1.size + (rdOf ByteArray.empty y136 bt139.1).size + bt142.1.size + 1 ≤ 9223372036854775807 then (some (((((⟨#[40]⟩ : ByteArray) ++ bt134.1) ++ (rdOf ByteArray.empty y136 bt139.1)) ++ bt142.1) ++ (⟨#[41]⟩ : ByteArray), bt142.2)) else (none)) else (none))) else (none)) else (none)) else (none)))) else (none))))) = some (r1, r2) := H
    have A15 := aM A150
    clear A150
    by_cases c16 : t122 = 0
    ·rw [if_pos c16] at H
     have c16b0 : (t122 == 0) = true := beq_iff_eq.mpr c16
     clear c16
     replace H := Option.bind_eq_some_iff.mp H
     obtain ⟨⟨t124, t125⟩, A170, H⟩ := H
     replace H : (if 1 + t124.size ≤ 9223372036854775807 then (some ((⟨#[42]⟩ : ByteArray) ++ t124, t125)) else (none)) = some (r1, r2) := H
     have A17 := aM A170
     clear A170
     by_cases c18 : 1 + t124.size ≤ 9223372036854775807
     ·rw [if_pos c18] at H
      try have c18b2 : (9223372036854775807 < 1 + t124.size) = False := eq_false (Nat.not_lt.2 c18)
      simp only [aV, aW] at H
      obtain ⟨rfl, rfl⟩ := H
      go_wp2_with (first | ((with_reducible refine aY (f := 24) rfl ?_); refine gL 18 Try.func24 #[.pointer (some ⟨g, 0, none⟩), .int .i64 6] ?_; (with_reducible refine (spec_l6Rd_pick.calls kj2 g s0_0 x1001_2 6 t122 t123 w0 _ ?side1 ?side2 A15.out).mono ?_); (case side1 => repeat ((with_reducible exact HI0.out))); (case side2 => repeat ((with_reducible exact HB.out))); rintro e w19 ⟨rfl, hi, hb, hk⟩; refine ⟨_, rfl, ?_⟩; replace HK := aM (cK HK.out hk (.inl rfl)); replace HB := aM hb; replace HI0 := aM hi; (try clear hb); (try clear hk); (try clear hi)) | ((with_reducible refine aY (f := 38) rfl ?_); refine gL 24 Try.func38 #[.pointer (some ⟨g, 0, none⟩), .int .i64 (wrap64 (a1 - 1))] ?_; (with_reducible refine (ih kj2 (by have := HJ2.out; omega) g s0_0 t123 (wrap64 (a1 - 1)) t124 t125 w0 _ ?side1 ?side2 A17.out).mono ?_); (case side1 => repeat ((with_reducible exact HI0.out))); (case side2 => repeat ((with_reducible exact HB.out))); rintro e w20 ⟨rfl, hi, hb, hk⟩; refine ⟨_, rfl, ?_⟩; replace HK := aM (cK HK.out hk (.inl rfl)); replace HB := aM hb; replace HI0 := aM hi; (try clear hb); (try clear hk); (try clear hi)))
      go_ret
      exact ⟨by first | rfl | (simp [*, errW_none, errW_some] <;> rfl), HI0.out, HB.out, HK.out⟩
     ·rw [if_neg c18] at H
      exact absurd H (by simp)
    ·rw [if_neg c16] at H
     have c16b0 : (t122 == 0) = false := beq_eq_false_iff_ne.mpr c16
     have c16b1 : (t122 != 0) = true := bne_iff_ne.mpr c16
     by_cases c21 : t122 = 1
     ·rw [if_pos c21] at H
      have c21b0 : (t122 == 1) = true := beq_iff_eq.mpr c21
      clear c21
      obtain ⟨y126, hy126⟩ : ∃ y_ : List ByteArray, y_ = (([(⟨#[50]⟩ : ByteArray), (⟨#[51]⟩ : ByteArray), (⟨#[52]⟩ : ByteArray), (⟨#[53]⟩ : ByteArray)] : List ByteArray)) := ⟨_, rfl⟩
      replace H : ((spec_l6Rd_pick.f kj2 s0_0 t123 4).bind fun bt129 => (if 0 ≤ bt129.1 then (if bt129.1 < (y126.length : Int) then ((spec_l91Term.f kj2 s0_0 bt129.2 (wrap64 (a1 - 1))).bind fun bt132 => (if (rdOf ByteArray.empty y126 bt129.1).size + bt132.1.size ≤ 9223372036854775807 then (some ((rdOf ByteArray.empty y126 bt129.1) ++ bt132.1, bt132.2)) else (none))) else (none)) else (none))) = some (r1, r2) := by first | (have H2_ := (bR _ _).symm.trans H; rw [hy126]; with_reducible exact H2_)
      have Ny126 := aM hy126
      clear hy126
      replace H := Option.bind_eq_some_iff.mp H
      obtain ⟨⟨t129, t130⟩, A220, H⟩ := H
      replace H : (if 0 ≤ t129 then (if t129 < (y126.length : Int) then ((spec_l91Term.f kj2 s0_0 t130 (wrap64 (a1 - 1))).bind fun bt132 => (if (rdOf ByteArray.empty y126 t129).size + bt132.1.size ≤ 9223372036854775807 then (some ((rdOf ByteArray.empty y126 t129) ++ bt132.1, bt132.2)) else (none))) else (none)) else (none)) = some (r1, r2) := H
      have A22 := aM A220
      clear A220
      by_cases c23 : 0 ≤ t129
      ·rw [if_pos c23] at H
       have c23b0 : decide (0 ≤ t129) = true := aH c23
       clear c23
       by_cases c24 : t129 < (y126.length : Int)
       ·rw [if_pos c24] at H
        have c24b0 : decide (t129 < (y126.length : Int)) = true := aH c24
        clear c24
        replace H := Option.bind_eq_some_iff.mp H
        obtain ⟨⟨t132, t133⟩, A250, H⟩ := H
        replace H : (if (rdOf ByteArray.empty y126 t129).size + t132.size ≤ 9223372036854775807 then (some ((rdOf ByteArray.empty y126 t129) ++ t132, t133)) else (none)) = some (r1, r2) := H
        have A25 := aM A250
        clear A250
        by_cases c26 : (rdOf ByteArray.empty y126 t129).size + t132.size ≤ 9223372036854775807
        ·rw [if_pos c26] at H
         try have c26b2 : (9223372036854775807 < (rdOf ByteArray.empty y126 t129).size + t132.size) = False := eq_false (Nat.not_lt.2 c26)
         simp only [aV, aW] at H
         obtain ⟨rfl, rfl⟩ := H
         try go_wp2_with (first | ((with_reducible refine aY (f := 24) rfl ?_); refine gL 18 Try.func24 #[.pointer (some ⟨g, 0, none⟩), .int .i64 6] ?_; (with_reducible refine (spec_l6Rd_pick.calls kj2 g s0_0 x1001_2 6 t122 t123 w0 _ ?side1 ?side2 A15.out).mono ?_); (case side1 => repeat ((with_reducible exact HI0.out))); (case side2 => repeat ((with_reducible exact HB.out))); rintro e w27 ⟨rfl, hi, hb, hk⟩; refine ⟨_, rfl, ?_⟩; replace HK := aM (cK HK.out hk (.inl rfl)); replace HB := aM hb; replace HI0 := aM hi; (try clear hb); (try clear hk); (try clear hi)))
         have pi131 : (0 ≤ (t129 : Int)) = True := eq_true (aJ (by (with_reducible assumption)))
         have qi131 : (t129 < (y126.length : Int)) = True := eq_true (aJ (by (with_reducible assumption)))
         replace HI0 := aM (IsS63.drew HI0.out)
         replace HK := aM (keep_drew HK.out)
         replace HB := aM (b1 HB.out)
         refine start_ (n := 11) (S := fun w' => True) (ds := []) #[false, false, false, false, false, false, false, false, false, false, false] (by kernel_rfl) rfl rfl trivial (fun hHeld => ?_); refine with_tabW spec_l91Term.tab7 spec_l91Term.bits7 (fun HT_ HW_ => ?_)
         generalize w27.drew = w28 at HI0 HK HB hHeld ⊢
         refine pQ 1 29 HT_ ?_
         refine pQ 5 33 HT_ ?_
         refine pQ 6 34 HT_ ?_
         refine inv_at [0, 2, 3, 4, 7, 8, 9, 10] (fun a0_ b a w' => ∃ (v127 : Value) (adz_v127 : Addr) (m3_ : Value), a = putSel a0_ b [(0, 28, v127), (2, 30, .int .i64 t129), (3, 31, m3_), (4, 32, .string (rdOf ByteArray.empty y126 t129)), (7, 35, .int .i64 (wrap64 (a1 - 1))), (8, 36, .string t132), (9, 37, .string ((rdOf ByteArray.empty y126 t129) ++ t132)), (10, 4, .string ((rdOf ByteArray.empty y126 t129) ++ t132))] ∧ (b 2 = false → IsS63 w0 w' g s0_0 t123) ∧ (KeepBut w w' g none) ∧ (Below w0.heap.size w0 w') ∧ (b 0 = true → Kd.R Kd.string 9 w' w.heap.size (fun _ => True) v127 y126) ∧ (b 0 = true → ∃ c_, (v127 : Value) = .slice (some adz_v127) y126.length c_) ∧ (b 2 = true → b 8 = false → IsS63 w0 w' g s0_0 t130) ∧ (b 8 = true → IsS63 w0 w' g s0_0 t133) ∧ (b 3 = true → (m3_ : Value) = .pointer (some (adz_v127.add (t129).toNat)))) HT_.out HW_.out (by kernel_rfl) (by kernel_rfl) ?_ ?_ ?_
         ·exact ⟨.bool false, ⟨0, 0, none⟩, .bool false, by simp only [putSel, bX, if_false], fun _ => HI0.out, HK.out, HB.out, fun h_ => absurd h_ (by decide), fun h_ => absurd h_ (by decide), fun h_ => absurd h_ (by decide), fun h_ => absurd h_ (by decide), fun h_ => absurd h_ (by decide)⟩
         ·skip
          clear HB HI0 HK
          refine steps_cons ?_ ?_
          ·rintro b a w' ⟨v127, adz_v127, m3_, ha, Q_HI0, Q_HK, Q_HB, Q_HO128, Q_HA_HO128, Q_HI0_e2, Q_HI0_e8, Q_X3_⟩ hb_ hon hoff
           refine ⟨_, rfl, fun K hK => ?_⟩
           replace ha := aM ha
           have HK := aM Q_HK
           have HB := aM Q_HB
           refine Kd.R_lit_step Kd.string _ 9 ?hg (N := 28) ?hd (xs := ([(⟨#[50]⟩ : ByteArray), (⟨#[51]⟩ : ByteArray), (⟨#[52]⟩ : ByteArray), (⟨#[53]⟩ : ByteArray)] : List ByteArray)) (inner := [.string (⟨#[50]⟩ : ByteArray), .string (⟨#[51]⟩ : ByteArray), .string (⟨#[52]⟩ : ByteArray), .string (⟨#[53]⟩ : ByteArray)]) (ok := fun _ => True) (okp := fun _ => True) ?hr ?hp (fun _ hk => hk) trivial (cE _ _) (cD _) (by simp) ?_; (case hd => rfl); (case hg => rfl); (case hr => first | (go_simp; done)); (case hp => exact (Reps.one (show Kd.M Kd.string _ _ _ (⟨#[50]⟩ : ByteArray) [.string (⟨#[50]⟩ : ByteArray)] from rfl) (Reps.one (show Kd.M Kd.string _ _ _ (⟨#[51]⟩ : ByteArray) [.string (⟨#[51]⟩ : ByteArray)] from rfl) (Reps.one (show Kd.M Kd.string _ _ _ (⟨#[52]⟩ : ByteArray) [.string (⟨#[52]⟩ : ByteArray)] from rfl) (Reps.one (show Kd.M Kd.string _ _ _ (⟨#[53]⟩ : ByteArray) [.string (⟨#[53]⟩ : ByteArray)] from rfl) (Reps.none _ _))))))
           intro v127 w29 ho30 hb hg_ hnew_
           clear hg_ hnew_
           (rw [← Ny126.out] at ho30)
           have n0_ := aM (bP ho30 (keep_size (w := w) (g := g) (row := none) HK.out))
           have n2_ := aM (cK HK.out (KeepBut.of_below hb g none) (.inl rfl))
           have n3_ := aM (aE HB.out hb)
           have z_HI0 := fun (h0_ : b 2 = false) => (show IsS63 w0 w29 g s0_0 t123 from by exact (IsS63.below (by repeat ((with_reducible exact (Q_HI0 h0_)))) hb))
           have z_HI0_e2 := fun (h0_ : b 2 = true) (h1_ : b 8 = false) => (show IsS63 w0 w29 g s0_0 t130 from by exact (IsS63.below (by repeat ((with_reducible exact (Q_HI0_e2 h0_ h1_)))) hb))
           have z_HI0_e8 := fun (h0_ : b 8 = true) => (show IsS63 w0 w29 g s0_0 t133 from by exact (IsS63.below (by repeat ((with_reducible exact (Q_HI0_e8 h0_)))) hb))
           clear HK
           clear HB
           have HO128 := n0_
           have HK := n2_
           have HB := n3_
           clear n0_ n2_ n3_
           clear hb ho30
           obtain ⟨Ao31, co31, eo31⟩ := bL HO128.out
           subst eo31
           obtain ⟨ado31, fo31, _⟩ := cR (bM HO128.out).2.2 0 (by decide) (by rw [Ny126.out]; simp)
           cases fo31
           refine hK.out _ _ ⟨.slice (some ado31) y126.length co31, ado31, m3_, (by rw [ha.out]; exact bZ 0 hb_ rfl rfl rfl), z_HI0, HK.out, HB.out, fun _ => HO128.out, fun _ => ⟨_, rfl⟩, z_HI0_e2, z_HI0_e8, fun h0_ => absurd ((hoff 3 (by kernel_rfl)).symm.trans h0_) (by decide)⟩
          refine steps_cons ?_ ?_
          ·rintro b a w' ⟨v127, adz_v127, m3_, ha, Q_HI0, Q_HK, Q_HB, Q_HO128, Q_HA_HO128, Q_HI0_e2, Q_HI0_e8, Q_X3_⟩ hb_ hon hoff
           refine ⟨_, rfl, fun K hK => ?_⟩
           have e29 : a.tmps[29]? = some (.pointer (some ⟨g, 0, none⟩)) := by rw [ha]; exact (cB rfl).trans rfl
           replace ha := aM ha
           have HI0 := aM (Q_HI0 hb_)
           have HK := aM Q_HK
           have HB := aM Q_HB
           refine gO Try.func24 #[.pointer (some ⟨g, 0, none⟩), .int .i64 4] (hargs := (by first | (simp only [aN, aQ, aT, Act.eval, Array.getD_eq_getD_getElem?, Option.getD_some, e29]; done))) ?_
           with_reducible refine (spec_l6Rd_pick.calls kj2 g s0_0 t123 4 t129 t130 w0 _ ?side1 ?side2 A22.out).mono ?_
           (case side1 => repeat ((with_reducible exact HI0.out)))
           (case side2 => repeat ((with_reducible exact HB.out)))
           rintro e w29 ⟨rfl, hi, hb, hk⟩
           refine ⟨_, rfl, ?_⟩
           have n0_ := aM (cK HK.out hk (.inl rfl))
           have n1_ := aM hb
           have n2_ := aM hi
           have z_HO128 := fun (h0_ : b 0 = true) => (show Kd.R Kd.string 9 w29 w.heap.size (fun _ => True) v127 y126 from by first | exact (bJ (cH (IsS63.apart (show IsS63 w0 _ g s0_0 t123 from by repeat ((with_reducible exact HI0.out))) (by exact (Q_HO128 h0_)) (by decide)) hk (fun _ h => h.2)) (fun _ h => h.1)))
           clear HK
           clear HB
           clear HI0
           have HK := n0_
           have HB := n1_
           have HI0 := n2_
           clear n0_ n1_ n2_
           (try clear hb)
           (try clear hk)
           (try clear hi)
           refine hK.out _ _ ⟨v127, adz_v127, m3_, (by rw [ha.out]; exact bZ 1 hb_ rfl rfl rfl), fun h0_ => absurd ((up_self b 2).symm.trans h0_) (by decide), HK.out, HB.out, z_HO128, Q_HA_HO128, fun _ _ => HI0.out, fun h0_ => absurd ((hoff 8 (by kernel_rfl)).symm.trans h0_) (by decide), fun h0_ => absurd ((hoff 3 (by kernel_rfl)).symm.trans h0_) (by decide)⟩
          refine steps_cons ?_ ?_
          ·rintro b a w' ⟨v127, adz_v127, m3_, ha, Q_HI0, Q_HK, Q_HB, Q_HO128, Q_HA_HO128, Q_HI0_e2, Q_HI0_e8, Q_X3_⟩ hb_ hon hoff
           refine ⟨_, rfl, fun K hK => ?_⟩
           have e28 : a.tmps[28]? = some (v127) := by rw [ha]; exact cA (e := (0, 28, v127)) 0 rfl rfl (hon 0 (by kernel_rfl)) rfl
           have e30 : a.tmps[30]? = some (.int .i64 t129) := by rw [ha]; exact cA (e := (2, 30, .int .i64 t129)) 1 rfl rfl (hon 2 (by kernel_rfl)) rfl
           replace ha := aM ha
           have HA_HO128 := aM (Q_HA_HO128 (hon 0 (by kernel_rfl)))
           obtain ⟨c_, hv_⟩ := HA_HO128.out
           rw [hv_] at e28
           refine value_ (w1 := w') (v := .pointer (some (adz_v127.add (t129).toNat))) (by rfl) rfl ?_ ?_
           ·go_simp
           refine hK.out _ _ ⟨v127, adz_v127, (.pointer (some (adz_v127.add (t129).toNat))), (by rw [ha.out]; exact bZ 2 hb_ rfl rfl rfl), fun h0_ => absurd ((hon 2 (by kernel_rfl)).symm.trans h0_) (by decide), Q_HK, Q_HB, Q_HO128, Q_HA_HO128, Q_HI0_e2, Q_HI0_e8, fun _ => rfl⟩
          refine steps_cons ?_ ?_
          ·rintro b a w' ⟨v127, adz_v127, m3_, ha, Q_HI0, Q_HK, Q_HB, Q_HO128, Q_HA_HO128, Q_HI0_e2, Q_HI0_e8, Q_X3_⟩ hb_ hon hoff
           refine ⟨_, rfl, fun K hK => ?_⟩
           have e31 : a.tmps[31]? = some (m3_) := by rw [ha]; exact cA (e := (3, 31, m3_)) 2 rfl rfl (hon 3 (by kernel_rfl)) rfl
           rw [Q_X3_ (hon 3 (by kernel_rfl))] at e31
           replace ha := aM ha
           have HO128 := aM (Q_HO128 (hon 0 (by kernel_rfl)))
           have HA_HO128 := aM (Q_HA_HO128 (hon 0 (by kernel_rfl)))
           obtain ⟨c_, hv_⟩ := HA_HO128.out
           have hF_ := HO128.out
           rw [hv_] at hF_
           obtain ⟨ad_, ea_, hx_⟩ := cR (bM hF_).2.2 t129 (cC pi131) (cC qi131)
           cases ea_
           refine value_ (w1 := w') (v := .string (rdOf ByteArray.empty y126 t129)) (by rfl) rfl ?_ ?_
           ·go_simp
           refine hK.out _ _ ⟨v127, adz_v127, m3_, (by rw [ha.out]; exact bZ 3 hb_ rfl rfl rfl), fun h0_ => absurd ((hon 2 (by kernel_rfl)).symm.trans h0_) (by decide), Q_HK, Q_HB, Q_HO128, Q_HA_HO128, Q_HI0_e2, Q_HI0_e8, Q_X3_⟩
          refine steps_cons ?_ ?_
          ·rintro b a w' ⟨v127, adz_v127, m3_, ha, Q_HI0, Q_HK, Q_HB, Q_HO128, Q_HA_HO128, Q_HI0_e2, Q_HI0_e8, Q_X3_⟩ hb_ hon hoff
           refine ⟨_, rfl, fun K hK => ?_⟩
           have e34 : a.tmps[34]? = some (.int .i64 a1) := by rw [ha]; exact (cB rfl).trans rfl
           replace ha := aM ha
           refine value_ (w1 := w') (v := .int .i64 (wrap64 (a1 - 1))) (by rfl) rfl ?_ ?_
           ·go_simp
            (try simp only [cS])
           refine hK.out _ _ ⟨v127, adz_v127, m3_, (by rw [ha.out]; exact bZ 4 hb_ rfl rfl rfl), Q_HI0, Q_HK, Q_HB, Q_HO128, Q_HA_HO128, Q_HI0_e2, fun h0_ => absurd ((hoff 8 (by kernel_rfl)).symm.trans h0_) (by decide), Q_X3_⟩
          refine steps_cons ?_ ?_
          ·rintro b a w' ⟨v127, adz_v127, m3_, ha, Q_HI0, Q_HK, Q_HB, Q_HO128, Q_HA_HO128, Q_HI0_e2, Q_HI0_e8, Q_X3_⟩ hb_ hon hoff
           refine ⟨_, rfl, fun K hK => ?_⟩
           have e33 : a.tmps[33]? = some (.pointer (some ⟨g, 0, none⟩)) := by rw [ha]; exact (cB rfl).trans rfl
           have e35 : a.tmps[35]? = some (.int .i64 (wrap64 (a1 - 1))) := by rw [ha]; exact cA (e := (7, 35, .int .i64 (wrap64 (a1 - 1)))) 4 rfl rfl (hon 7 (by kernel_rfl)) rfl
           replace ha := aM ha
           have HK := aM Q_HK
           have HB := aM Q_HB
           have HI0 := aM (Q_HI0_e2 (hon 2 (by kernel_rfl)) hb_)
           refine gO Try.func38 #[.pointer (some ⟨g, 0, none⟩), .int .i64 (wrap64 (a1 - 1))] (hargs := (by first | (simp only [aN, aQ, aT, Act.eval, Array.getD_eq_getD_getElem?, Option.getD_some, e33, e35]; done))) ?_
           with_reducible refine (ih kj2 (by have := HJ2.out; omega) g s0_0 t130 (wrap64 (a1 - 1)) t132 t133 w0 _ ?side1 ?side2 A25.out).mono ?_
           (case side1 => repeat ((with_reducible exact HI0.out)))
           (case side2 => repeat ((with_reducible exact HB.out)))
           rintro e w31 ⟨rfl, hi, hb, hk⟩
           refine ⟨_, rfl, ?_⟩
           have n0_ := aM (cK HK.out hk (.inl rfl))
           have n1_ := aM hb
           have n2_ := aM hi
           have z_HO128 := fun (h0_ : b 0 = true) => (show Kd.R Kd.string 9 w31 w.heap.size (fun _ => True) v127 y126 from by first | exact (bJ (cH (IsS63.apart (show IsS63 w0 _ g s0_0 t130 from by repeat ((with_reducible exact HI0.out))) (by exact (Q_HO128 h0_)) (by decide)) hk (fun _ h => h.2)) (fun _ h => h.1)))
           clear HK
           clear HB
           clear HI0
           have HK := n0_
           have HB := n1_
           have HI0 := n2_
           clear n0_ n1_ n2_
           (try clear hb)
           (try clear hk)
           (try clear hi)
           refine hK.out _ _ ⟨v127, adz_v127, m3_, (by rw [ha.out]; exact bZ 5 hb_ rfl rfl rfl), fun h0_ => absurd ((hon 2 (by kernel_rfl)).symm.trans h0_) (by decide), HK.out, HB.out, z_HO128, Q_HA_HO128, fun _ h1_ => absurd ((up_self b 8).symm.trans h1_) (by decide), fun _ => HI0.out, Q_X3_⟩
          refine steps_cons ?_ ?_
          ·rintro b a w' ⟨v127, adz_v127, m3_, ha, Q_HI0, Q_HK, Q_HB, Q_HO128, Q_HA_HO128, Q_HI0_e2, Q_HI0_e8, Q_X3_⟩ hb_ hon hoff
           refine ⟨_, rfl, fun K hK => ?_⟩
           have e32 : a.tmps[32]? = some (.string (rdOf ByteArray.empty y126 t129)) := by rw [ha]; exact cA (e := (4, 32, .string (rdOf ByteArray.empty y126 t129))) 3 rfl rfl (hon 4 (by kernel_rfl)) rfl
           have e36 : a.tmps[36]? = some (.string t132) := by rw [ha]; exact cA (e := (8, 36, .string t132)) 5 rfl rfl (hon 8 (by kernel_rfl)) rfl
           replace ha := aM ha
           refine value_ (w1 := w') (v := .string ((rdOf ByteArray.empty y126 t129) ++ t132)) (by rfl) rfl ?_ ?_
           ·go_simp
           refine hK.out _ _ ⟨v127, adz_v127, m3_, (by rw [ha.out]; exact bZ 6 hb_ rfl rfl rfl), fun h0_ => absurd ((hon 2 (by kernel_rfl)).symm.trans h0_) (by decide), Q_HK, Q_HB, Q_HO128, Q_HA_HO128, fun _ h1_ => absurd ((hon 8 (by kernel_rfl)).symm.trans h1_) (by decide), Q_HI0_e8, Q_X3_⟩
          refine steps_cons ?_ ?_
          ·rintro b a w' ⟨v127, adz_v127, m3_, ha, Q_HI0, Q_HK, Q_HB, Q_HO128, Q_HA_HO128, Q_HI0_e2, Q_HI0_e8, Q_X3_⟩ hb_ hon hoff
           refine ⟨_, rfl, fun K hK => ?_⟩
           have e37 : a.tmps[37]? = some (.string ((rdOf ByteArray.empty y126 t129) ++ t132)) := by rw [ha]; exact cA (e := (9, 37, .string ((rdOf ByteArray.empty y126 t129) ++ t132))) 6 rfl rfl (hon 9 (by kernel_rfl)) rfl
           replace ha := aM ha
           refine value_ (w1 := w') (v := .string ((rdOf ByteArray.empty y126 t129) ++ t132)) (by rfl) rfl ?_ ?_
           ·go_simp
           refine hK.out _ _ ⟨v127, adz_v127, m3_, (by rw [ha.out]; exact bZ 7 hb_ rfl rfl rfl), fun h0_ => absurd ((hon 2 (by kernel_rfl)).symm.trans h0_) (by decide), Q_HK, Q_HB, Q_HO128, Q_HA_HO128, fun _ h1_ => absurd ((hon 8 (by kernel_rfl)).symm.trans h1_) (by decide), Q_HI0_e8, Q_X3_⟩
          exact steps_nil
         rintro b a w34 hall ⟨v127, adz_v127, m3_, ha, Q_HI0, Q_HK, Q_HB, Q_HO128, Q_HA_HO128, Q_HI0_e2, Q_HI0_e8, Q_X3_⟩
         clear HB HI0 HK
         have hb0_ := hall 0 (by kernel_rfl)
         have hb2_ := hall 2 (by kernel_rfl)
         have hb3_ := hall 3 (by kernel_rfl)
         have hb4_ := hall 4 (by kernel_rfl)
         have hb7_ := hall 7 (by kernel_rfl)
         have hb8_ := hall 8 (by kernel_rfl)
         have hb9_ := hall 9 (by kernel_rfl)
         have hb10_ := hall 10 (by kernel_rfl)
         subst ha
         obtain rfl := Q_X3_ hb3_
         simp only [putSel, hb0_, hb2_, hb3_, hb4_, hb7_, hb8_, hb9_, hb10_, if_true, Act.put, sA, sZ, sS]
         clear Q_HI0
         have HK := aM Q_HK
         clear Q_HK
         have HB := aM Q_HB
         clear Q_HB
         have HO128 := aM (Q_HO128 hb0_)
         clear Q_HO128
         have HA_HO128 := aM (Q_HA_HO128 hb0_)
         clear Q_HA_HO128
         clear Q_HI0_e2
         have HI0 := aM (Q_HI0_e8 hb8_)
         clear Q_HI0_e8
         clear hall hb0_ hb2_ hb3_ hb4_ hb7_ hb8_ hb9_ hb10_
         obtain ⟨co35, eo35⟩ := HA_HO128.out
         clear HA_HO128
         subst eo35
         try go_wp2
         go_ret
         exact ⟨by first | rfl | (simp [*, errW_none, errW_some] <;> rfl), HI0.out, HB.out, HK.out⟩
        ·rw [if_neg c26] at H
         exact absurd H (by simp)
       ·rw [if_neg c24] at H
        exact absurd H (by simp)
      ·rw [if_neg c23] at H
       exact absurd H (by simp)
     ·rw [if_neg c21] at H
      have c21b0 : (t122 == 1) = false := beq_eq_false_iff_ne.mpr c21
      replace H := Option.bind_eq_some_iff.mp H
      obtain ⟨⟨t134, t135⟩, A360, H⟩ := H
      replace H : (if 1 + t134.size ≤ 9223372036854775807 then ((some (([(⟨#[43]⟩ : ByteArray), (⟨#[43]⟩ : ByteArray), (⟨#[46]⟩ : ByteArray), (⟨#[38]⟩ : ByteArray)] : List ByteArray) : List ByteArray)).bind fun y136 => ((spec_l6Rd_pick.f kj2 s0_0 t135 4).bind fun bt139 => (if 0 ≤ bt139.1 then (if bt139.1 < (y136.length : Int) then (if 1 + t134.size + (rdOf ByteArray.empty y136 bt139.1).size ≤ 9223372036854775807 then ((spec_l91Term.f kj2 s0_0 bt139.2 (wrap64 (a1 - 1))).bind fun bt142 => (if 1 + t134.size + (rdOf ByteArray.empty y136 bt139.1).size + bt142.1.size ≤ 9223372036854775807 then (if 1 + t134.size + (rdOf ByteArray.empty y136 bt139.1).size + bt142.1.size + 1 ≤ 9223372036854775807 then (some (((((⟨#[40]⟩ : ByteArray) ++ t134) ++ (rdOf ByteArray.empty y136 bt139.1)) ++ bt142.1) ++ (⟨#[41]⟩ : ByteArray), bt142.2)) else (none)) else (none))) else (none)) else (none)) else (none)))) else (none)) = some (r1, r2) := H
      have A36 := aM A360
      clear A360
      by_cases c37 : 1 + t134.size ≤ 9223372036854775807
      ·rw [if_pos c37] at H
       try have c37b2 : (9223372036854775807 < 1 + t134.size) = False := eq_false (Nat.not_lt.2 c37)
       obtain ⟨y136, hy136⟩ : ∃ y_ : List ByteArray, y_ = (([(⟨#[43]⟩ : ByteArray), (⟨#[43]⟩ : ByteArray), (⟨#[46]⟩ : ByteArray), (⟨#[38]⟩ : ByteArray)] : List ByteArray)) := ⟨_, rfl⟩
       replace H : ((spec_l6Rd_pick.f kj2 s0_0 t135 4).bind fun bt139 => (if 0 ≤ bt139.1 then (if bt139.1 < (y136.length : Int) then (if 1 + t134.size + (rdOf ByteArray.empty y136 bt139.1).size ≤ 9223372036854775807 then ((spec_l91Term.f kj2 s0_0 bt139.2 (wrap64 (a1 - 1))).bind fun bt142 => (if 1 + t134.size + (rdOf ByteArray.empty y136 bt139.1).size + bt142.1.size ≤ 9223372036854775807 then (if 1 + t134.size + (rdOf ByteArray.empty y136 bt139.1).size + bt142.1.size + 1 ≤ 9223372036854775807 then (some (((((⟨#[40]⟩ : ByteArray) ++ t134) ++ (rdOf ByteArray.empty y136 bt139.1)) ++ bt142.1) ++ (⟨#[41]⟩ : ByteArray), bt142.2)) else (none)) else (none))) else (none)) else (none)) else (none))) = some (r1, r2) := by first | (have H2_ := (bR _ _).symm.trans H; rw [hy136]; with_reducible exact H2_)
       have Ny136 := aM hy136
       clear hy136
       replace H := Option.bind_eq_some_iff.mp H
       obtain ⟨⟨t139, t140⟩, A380, H⟩ := H
       replace H : (if 0 ≤ t139 then (if t139 < (y136.length : Int) then (if 1 + t134.size + (rdOf ByteArray.empty y136 t139).size ≤ 9223372036854775807 then ((spec_l91Term.f kj2 s0_0 t140 (wrap64 (a1 - 1))).bind fun bt142 => (if 1 + t134.size + (rdOf ByteArray.empty y136 t139).size + bt142.1.size ≤ 9223372036854775807 then (if 1 + t134.size + (rdOf ByteArray.empty y136 t139).size + bt142.1.size + 1 ≤ 9223372036854775807 then (some (((((⟨#[40]⟩ : ByteArray) ++ t134) ++ (rdOf ByteArray.empty y136 t139)) ++ bt142.1) ++ (⟨#[41]⟩ : ByteArray), bt142.2)) else (none)) else (none))) else (none)) else (none)) else (none)) = some (r1, r2) := H
       have A38 := aM A380
       clear A380
       by_cases c39 : 0 ≤ t139
       ·rw [if_pos c39] at H
        have c39b0 : decide (0 ≤ t139) = true := aH c39
        clear c39
        by_cases c40 : t139 < (y136.length : Int)
        ·rw [if_pos c40] at H
         have c40b0 : decide (t139 < (y136.length : Int)) = true := aH c40
         clear c40
         by_cases c41 : 1 + t134.size + (rdOf ByteArray.empty y136 t139).size ≤ 9223372036854775807
         ·rw [if_pos c41] at H
          try have c41b2 : (9223372036854775807 < 1 + t134.size + (rdOf ByteArray.empty y136 t139).size) = False := eq_false (Nat.not_lt.2 c41)
          replace H := Option.bind_eq_some_iff.mp H
          obtain ⟨⟨t142, t143⟩, A420, H⟩ := H
          replace H : (if 1 + t134.size + (rdOf ByteArray.empty y136 t139).size + t142.size ≤ 9223372036854775807 then (if 1 + t134.size + (rdOf ByteArray.empty y136 t139).size + t142.size + 1 ≤ 9223372036854775807 then (some (((((⟨#[40]⟩ : ByteArray) ++ t134) ++ (rdOf ByteArray.empty y136 t139)) ++ t142) ++ (⟨#[41]⟩ : ByteArray), t143)) else (none)) else (none)) = some (r1, r2) := H
          have A42 := aM A420
          clear A420
          by_cases c43 : 1 + t134.size + (rdOf ByteArray.empty y136 t139).size + t142.size ≤ 9223372036854775807
          ·rw [if_pos c43] at H
           have c43b0 := eq_true c43
           have c43b1 : decide (1 + t134.size + (rdOf ByteArray.empty y136 t139).size + t142.size ≤ 9223372036854775807) = true := aH c43
           try have c43b2 : (9223372036854775807 < 1 + t134.size + (rdOf ByteArray.empty y136 t139).size + t142.size) = False := eq_false (Nat.not_lt.2 c43)
           by_cases c44 : 1 + t134.size + (rdOf ByteArray.empty y136 t139).size + t142.size + 1 ≤ 9223372036854775807
           ·rw [if_pos c44] at H
            try have c44b2 : (9223372036854775807 < 1 + t134.size + (rdOf ByteArray.empty y136 t139).size + t142.size + 1) = False := eq_false (Nat.not_lt.2 c44)
            simp only [aV, aW] at H
            obtain ⟨rfl, rfl⟩ := H
            try go_wp2_with (first | ((with_reducible refine aY (f := 24) rfl ?_); refine gL 18 Try.func24 #[.pointer (some ⟨g, 0, none⟩), .int .i64 6] ?_; (with_reducible refine (spec_l6Rd_pick.calls kj2 g s0_0 x1001_2 6 t122 t123 w0 _ ?side1 ?side2 A15.out).mono ?_); (case side1 => repeat ((with_reducible exact HI0.out))); (case side2 => repeat ((with_reducible exact HB.out))); rintro e w45 ⟨rfl, hi, hb, hk⟩; refine ⟨_, rfl, ?_⟩; replace HK := aM (cK HK.out hk (.inl rfl)); replace HB := aM hb; replace HI0 := aM hi; (try clear hb); (try clear hk); (try clear hi)))
            have pi141 : (0 ≤ (t139 : Int)) = True := eq_true (aJ (by (with_reducible assumption)))
            have qi141 : (t139 < (y136.length : Int)) = True := eq_true (aJ (by (with_reducible assumption)))
            replace HI0 := aM (IsS63.drew HI0.out)
            replace HK := aM (keep_drew HK.out)
            replace HB := aM (b1 HB.out)
            refine start_ (n := 18) (S := fun w' => True) (ds := []) #[false, false, false, false, false, false, false, false, false, false, false, false, false, false, false, false, false, false] (by kernel_rfl) rfl rfl trivial (fun hHeld => ?_); refine with_tabW spec_l91Term.tab8 spec_l91Term.bits8 (fun HT_ HW_ => ?_)
            generalize w45.drew = w46 at HI0 HK HB hHeld ⊢
            refine pQ 0 38 HT_ ?_
            refine pQ 1 39 HT_ ?_
            refine pQ 6 44 HT_ ?_
            refine pQ 11 49 HT_ ?_
            refine pQ 12 50 HT_ ?_
            refine inv_at [2, 3, 4, 5, 7, 8, 9, 10, 13, 14, 15, 16, 17] (fun a0_ b a w' => ∃ (v137 : Value) (adz_v137 : Addr) (m8_ : Value), a = putSel a0_ b [(2, 40, .int .i64 (wrap64 (a1 - 1))), (3, 41, .string t134), (4, 42, .string ((⟨#[40]⟩ : ByteArray) ++ t134)), (5, 43, v137), (7, 45, .int .i64 t139), (8, 46, m8_), (9, 47, .string (rdOf ByteArray.empty y136 t139)), (10, 48, .string (((⟨#[40]⟩ : ByteArray) ++ t134) ++ (rdOf ByteArray.empty y136 t139))), (13, 51, .int .i64 (wrap64 (a1 - 1))), (14, 52, .string t142), (15, 53, .string ((((⟨#[40]⟩ : ByteArray) ++ t134) ++ (rdOf ByteArray.empty y136 t139)) ++ t142)), (16, 54, .string (((((⟨#[40]⟩ : ByteArray) ++ t134) ++ (rdOf ByteArray.empty y136 t139)) ++ t142) ++ (⟨#[41]⟩ : ByteArray))), (17, 4, .string (((((⟨#[40]⟩ : ByteArray) ++ t134) ++ (rdOf ByteArray.empty y136 t139)) ++ t142) ++ (⟨#[41]⟩ : ByteArray)))] ∧ (b 3 = false → IsS63 w0 w' g s0_0 t123) ∧ (KeepBut w w' g none) ∧ (Below w0.heap.size w0 w') ∧ (b 3 = true → b 7 = false → IsS63 w0 w' g s0_0 t135) ∧ (b 5 = true → Kd.R Kd.string 9 w' w.heap.size (fun _ => True) v137 y136) ∧ (b 5 = true → ∃ c_, (v137 : Value) = .slice (some adz_v137) y136.length c_) ∧ (b 7 = true → b 14 = false → IsS63 w0 w' g s0_0 t140) ∧ (b 14 = true → IsS63 w0 w' g s0_0 t143) ∧ (b 8 = true → (m8_ : Value) = .pointer (some (adz_v137.add (t139).toNat)))) HT_.out HW_.out (by kernel_rfl) (by kernel_rfl) ?_ ?_ ?_
            ·exact ⟨.bool false, ⟨0, 0, none⟩, .bool false, by simp only [putSel, bX, if_false], fun _ => HI0.out, HK.out, HB.out, fun h_ => absurd h_ (by decide), fun h_ => absurd h_ (by decide), fun h_ => absurd h_ (by decide), fun h_ => absurd h_ (by decide), fun h_ => absurd h_ (by decide), fun h_ => absurd h_ (by decide)⟩
            ·skip
             clear HB HI0 HK
             refine steps_cons ?_ ?_
             ·rintro b a w' ⟨v137, adz_v137, m8_, ha, Q_HI0, Q_HK, Q_HB, Q_HI0_e3, Q_HO138, Q_HA_HO138, Q_HI0_e7, Q_HI0_e14, Q_X8_⟩ hb_ hon hoff
              refine ⟨_, rfl, fun K hK => ?_⟩
              have e39 : a.tmps[39]? = some (.int .i64 a1) := by rw [ha]; exact (cB rfl).trans rfl
              replace ha := aM ha
              refine value_ (w1 := w') (v := .int .i64 (wrap64 (a1 - 1))) (by rfl) rfl ?_ ?_
              ·go_simp
               (try simp only [cS])
              refine hK.out _ _ ⟨v137, adz_v137, m8_, (by rw [ha.out]; exact bZ 0 hb_ rfl rfl rfl), Q_HI0, Q_HK, Q_HB, fun h0_ _ => absurd ((hoff 3 (by kernel_rfl)).symm.trans h0_) (by decide), Q_HO138, Q_HA_HO138, fun h0_ _ => absurd ((hoff 7 (by kernel_rfl)).symm.trans h0_) (by decide), fun h0_ => absurd ((hoff 14 (by kernel_rfl)).symm.trans h0_) (by decide), fun h0_ => absurd ((hoff 8 (by kernel_rfl)).symm.trans h0_) (by decide)⟩
             refine steps_cons ?_ ?_
             ·rintro b a w' ⟨v137, adz_v137, m8_, ha, Q_HI0, Q_HK, Q_HB, Q_HI0_e3, Q_HO138, Q_HA_HO138, Q_HI0_e7, Q_HI0_e14, Q_X8_⟩ hb_ hon hoff
              refine ⟨_, rfl, fun K hK => ?_⟩
              have e38 : a.tmps[38]? = some (.pointer (some ⟨g, 0, none⟩)) := by rw [ha]; exact (cB rfl).trans rfl
              have e40 : a.tmps[40]? = some (.int .i64 (wrap64 (a1 - 1))) := by rw [ha]; exact cA (e := (2, 40, .int .i64 (wrap64 (a1 - 1)))) 0 rfl rfl (hon 2 (by kernel_rfl)) rfl
              replace ha := aM ha
              have HI0 := aM (Q_HI0 hb_)
              have HK := aM Q_HK
              have HB := aM Q_HB
              refine gO Try.func38 #[.pointer (some ⟨g, 0, none⟩), .int .i64 (wrap64 (a1 - 1))] (hargs := (by first | (simp only [aN, aQ, aT, Act.eval, Array.getD_eq_getD_getElem?, Option.getD_some, e38, e40]; done))) ?_
              with_reducible refine (ih kj2 (by have := HJ2.out; omega) g s0_0 t123 (wrap64 (a1 - 1)) t134 t135 w0 _ ?side1 ?side2 A36.out).mono ?_
              (case side1 => repeat ((with_reducible exact HI0.out)))
              (case side2 => repeat ((with_reducible exact HB.out)))
              rintro e w47 ⟨rfl, hi, hb, hk⟩
              refine ⟨_, rfl, ?_⟩
              have n0_ := aM (cK HK.out hk (.inl rfl))
              have n1_ := aM hb
              have n2_ := aM hi
              have z_HO138 := fun (h0_ : b 5 = true) => (show Kd.R Kd.string 9 w47 w.heap.size (fun _ => True) v137 y136 from by first | exact (bJ (cH (IsS63.apart (show IsS63 w0 _ g s0_0 t123 from by repeat ((with_reducible exact HI0.out))) (by exact (Q_HO138 h0_)) (by decide)) hk (fun _ h => h.2)) (fun _ h => h.1)))
              clear HK
              clear HB
              clear HI0
              have HK := n0_
              have HB := n1_
              have HI0 := n2_
              clear n0_ n1_ n2_
              (try clear hb)
              (try clear hk)
              (try clear hi)
              refine hK.out _ _ ⟨v137, adz_v137, m8_, (by rw [ha.out]; exact bZ 1 hb_ rfl rfl rfl), fun h0_ => absurd ((up_self b 3).symm.trans h0_) (by decide), HK.out, HB.out, fun _ _ => HI0.out, z_HO138, Q_HA_HO138, fun h0_ _ => absurd ((hoff 7 (by kernel_rfl)).symm.trans h0_) (by decide), fun h0_ => absurd ((hoff 14 (by kernel_rfl)).symm.trans h0_) (by decide), fun h0_ => absurd ((hoff 8 (by kernel_rfl)).symm.trans h0_) (by decide)⟩
             refine steps_cons ?_ ?_
             ·rintro b a w' ⟨v137, adz_v137, m8_, ha, Q_HI0, Q_HK, Q_HB, Q_HI0_e3, Q_HO138, Q_HA_HO138, Q_HI0_e7, Q_HI0_e14, Q_X8_⟩ hb_ hon hoff
              refine ⟨_, rfl, fun K hK => ?_⟩
              have e41 : a.tmps[41]? = some (.string t134) := by rw [ha]; exact cA (e := (3, 41, .string t134)) 1 rfl rfl (hon 3 (by kernel_rfl)) rfl
              replace ha := aM ha
              refine value_ (w1 := w') (v := .string ((⟨#[40]⟩ : ByteArray) ++ t134)) (by rfl) rfl ?_ ?_
              ·go_simp
              refine hK.out _ _ ⟨v137, adz_v137, m8_, (by rw [ha.out]; exact bZ 2 hb_ rfl rfl rfl), fun h0_ => absurd ((hon 3 (by kernel_rfl)).symm.trans h0_) (by decide), Q_HK, Q_HB, Q_HI0_e3, Q_HO138, Q_HA_HO138, Q_HI0_e7, Q_HI0_e14, Q_X8_⟩
             refine steps_cons ?_ ?_
             ·rintro b a w' ⟨v137, adz_v137, m8_, ha, Q_HI0, Q_HK, Q_HB, Q_HI0_e3, Q_HO138, Q_HA_HO138, Q_HI0_e7, Q_HI0_e14, Q_X8_⟩ hb_ hon hoff
              refine ⟨_, rfl, fun K hK => ?_⟩
              replace ha := aM ha
              have HK := aM Q_HK
              have HB := aM Q_HB
              refine Kd.R_lit_step Kd.string _ 9 ?hg (N := 43) ?hd (xs := ([(⟨#[43]⟩ : ByteArray), (⟨#[43]⟩ : ByteArray), (⟨#[46]⟩ : ByteArray), (⟨#[38]⟩ : ByteArray)] : List ByteArray)) (inner := [.string (⟨#[43]⟩ : ByteArray), .string (⟨#[43]⟩ : ByteArray), .string (⟨#[46]⟩ : ByteArray), .string (⟨#[38]⟩ : ByteArray)]) (ok := fun _ => True) (okp := fun _ => True) ?hr ?hp (fun _ hk => hk) trivial (cE _ _) (cD _) (by simp) ?_; (case hd => rfl); (case hg => rfl); (case hr => first | (go_simp; done)); (case hp => exact (Reps.one (show Kd.M Kd.string _ _ _ (⟨#[43]⟩ : ByteArray) [.string (⟨#[43]⟩ : ByteArray)] from rfl) (Reps.one (show Kd.M Kd.string _ _ _ (⟨#[43]⟩ : ByteArray) [.string (⟨#[43]⟩ : ByteArray)] from rfl) (Reps.one (show Kd.M Kd.string _ _ _ (⟨#[46]⟩ : ByteArray) [.string (⟨#[46]⟩ : ByteArray)] from rfl) (Reps.one (show Kd.M Kd.string _ _ _ (⟨#[38]⟩ : ByteArray) [.string (⟨#[38]⟩ : ByteArray)] from rfl) (Reps.none _ _))))))
              intro v137 w47 ho48 hb hg_ hnew_
              clear hg_ hnew_
              (rw [← Ny136.out] at ho48)
              have n0_ := aM (bP ho48 (keep_size (w := w) (g := g) (row := none) HK.out))
              have n2_ := aM (cK HK.out (KeepBut.of_below hb g none) (.inl rfl))
              have n3_ := aM (aE HB.out hb)
              have z_HI0 := fun (h0_ : b 3 = false) => (show IsS63 w0 w47 g s0_0 t123 from by exact (IsS63.below (by repeat ((with_reducible exact (Q_HI0 h0_)))) hb))
              have z_HI0_e3 := fun (h0_ : b 3 = true) (h1_ : b 7 = false) => (show IsS63 w0 w47 g s0_0 t135 from by exact (IsS63.below (by repeat ((with_reducible exact (Q_HI0_e3 h0_ h1_)))) hb))
              have z_HI0_e7 := fun (h0_ : b 7 = true) (h1_ : b 14 = false) => (show IsS63 w0 w47 g s0_0 t140 from by exact (IsS63.below (by repeat ((with_reducible exact (Q_HI0_e7 h0_ h1_)))) hb))
              have z_HI0_e14 := fun (h0_ : b 14 = true) => (show IsS63 w0 w47 g s0_0 t143 from by exact (IsS63.below (by repeat ((with_reducible exact (Q_HI0_e14 h0_)))) hb))
              clear HK
              clear HB
              have HO138 := n0_
              have HK := n2_
              have HB := n3_
              clear n0_ n2_ n3_
              clear hb ho48
              obtain ⟨Ao49, co49, eo49⟩ := bL HO138.out
              subst eo49
              obtain ⟨ado49, fo49, _⟩ := cR (bM HO138.out).2.2 0 (by decide) (by rw [Ny136.out]; simp)
              cases fo49
              refine hK.out _ _ ⟨.slice (some ado49) y136.length co49, ado49, m8_, (by rw [ha.out]; exact bZ 3 hb_ rfl rfl rfl), z_HI0, HK.out, HB.out, z_HI0_e3, fun _ => HO138.out, fun _ => ⟨_, rfl⟩, z_HI0_e7, z_HI0_e14, fun h0_ => absurd ((hoff 8 (by kernel_rfl)).symm.trans h0_) (by decide)⟩
             refine steps_cons ?_ ?_
             ·rintro b a w' ⟨v137, adz_v137, m8_, ha, Q_HI0, Q_HK, Q_HB, Q_HI0_e3, Q_HO138, Q_HA_HO138, Q_HI0_e7, Q_HI0_e14, Q_X8_⟩ hb_ hon hoff
              refine ⟨_, rfl, fun K hK => ?_⟩
              have e44 : a.tmps[44]? = some (.pointer (some ⟨g, 0, none⟩)) := by rw [ha]; exact (cB rfl).trans rfl
              replace ha := aM ha
              have HK := aM Q_HK
              have HB := aM Q_HB
              have HI0 := aM (Q_HI0_e3 (hon 3 (by kernel_rfl)) hb_)
              refine gO Try.func24 #[.pointer (some ⟨g, 0, none⟩), .int .i64 4] (hargs := (by first | (simp only [aN, aQ, aT, Act.eval, Array.getD_eq_getD_getElem?, Option.getD_some, e44]; done))) ?_
              with_reducible refine (spec_l6Rd_pick.calls kj2 g s0_0 t135 4 t139 t140 w0 _ ?side1 ?side2 A38.out).mono ?_
              (case side1 => repeat ((with_reducible exact HI0.out)))
              (case side2 => repeat ((with_reducible exact HB.out)))
              rintro e w49 ⟨rfl, hi, hb, hk⟩
              refine ⟨_, rfl, ?_⟩
              have n0_ := aM (cK HK.out hk (.inl rfl))
              have n1_ := aM hb
              have n2_ := aM hi
              have z_HO138 := fun (h0_ : b 5 = true) => (show Kd.R Kd.string 9 w49 w.heap.size (fun _ => True) v137 y136 from by first | exact (bJ (cH (IsS63.apart (show IsS63 w0 _ g s0_0 t135 from by repeat ((with_reducible exact HI0.out))) (by exact (Q_HO138 h0_)) (by decide)) hk (fun _ h => h.2)) (fun _ h => h.1)))
              clear HK
              clear HB
              clear HI0
              have HK := n0_
              have HB := n1_
              have HI0 := n2_
              clear n0_ n1_ n2_
              (try clear hb)
              (try clear hk)
              (try clear hi)
              refine hK.out _ _ ⟨v137, adz_v137, m8_, (by rw [ha.out]; exact bZ 4 hb_ rfl rfl rfl), fun h0_ => absurd ((hon 3 (by kernel_rfl)).symm.trans h0_) (by decide), HK.out, HB.out, fun _ h1_ => absurd ((up_self b 7).symm.trans h1_) (by decide), z_HO138, Q_HA_HO138, fun _ _ => HI0.out, fun h0_ => absurd ((hoff 14 (by kernel_rfl)).symm.trans h0_) (by decide), fun h0_ => absurd ((hoff 8 (by kernel_rfl)).symm.trans h0_) (by decide)⟩
             refine steps_cons ?_ ?_
             ·rintro b a w' ⟨v137, adz_v137, m8_, ha, Q_HI0, Q_HK, Q_HB, Q_HI0_e3, Q_HO138, Q_HA_HO138, Q_HI0_e7, Q_HI0_e14, Q_X8_⟩ hb_ hon hoff
              refine ⟨_, rfl, fun K hK => ?_⟩
              have e43 : a.tmps[43]? = some (v137) := by rw [ha]; exact cA (e := (5, 43, v137)) 3 rfl rfl (hon 5 (by kernel_rfl)) rfl
              have e45 : a.tmps[45]? = some (.int .i64 t139) := by rw [ha]; exact cA (e := (7, 45, .int .i64 t139)) 4 rfl rfl (hon 7 (by kernel_rfl)) rfl
              replace ha := aM ha
              have HA_HO138 := aM (Q_HA_HO138 (hon 5 (by kernel_rfl)))
              obtain ⟨c_, hv_⟩ := HA_HO138.out
              rw [hv_] at e43
              refine value_ (w1 := w') (v := .pointer (some (adz_v137.add (t139).toNat))) (by rfl) rfl ?_ ?_
              ·go_simp
              refine hK.out _ _ ⟨v137, adz_v137, (.pointer (some (adz_v137.add (t139).toNat))), (by rw [ha.out]; exact bZ 5 hb_ rfl rfl rfl), fun h0_ => absurd ((hon 3 (by kernel_rfl)).symm.trans h0_) (by decide), Q_HK, Q_HB, fun _ h1_ => absurd ((hon 7 (by kernel_rfl)).symm.trans h1_) (by decide), Q_HO138, Q_HA_HO138, Q_HI0_e7, Q_HI0_e14, fun _ => rfl⟩
             refine steps_cons ?_ ?_
             ·rintro b a w' ⟨v137, adz_v137, m8_, ha, Q_HI0, Q_HK, Q_HB, Q_HI0_e3, Q_HO138, Q_HA_HO138, Q_HI0_e7, Q_HI0_e14, Q_X8_⟩ hb_ hon hoff
              refine ⟨_, rfl, fun K hK => ?_⟩
              have e46 : a.tmps[46]? = some (m8_) := by rw [ha]; exact cA (e := (8, 46, m8_)) 5 rfl rfl (hon 8 (by kernel_rfl)) rfl
              rw [Q_X8_ (hon 8 (by kernel_rfl))] at e46
              replace ha := aM ha
              have HO138 := aM (Q_HO138 (hon 5 (by kernel_rfl)))
              have HA_HO138 := aM (Q_HA_HO138 (hon 5 (by kernel_rfl)))
              obtain ⟨c_, hv_⟩ := HA_HO138.out
              have hF_ := HO138.out
              rw [hv_] at hF_
              obtain ⟨ad_, ea_, hx_⟩ := cR (bM hF_).2.2 t139 (cC pi141) (cC qi141)
              cases ea_
              refine value_ (w1 := w') (v := .string (rdOf ByteArray.empty y136 t139)) (by rfl) rfl ?_ ?_
              ·go_simp
              refine hK.out _ _ ⟨v137, adz_v137, m8_, (by rw [ha.out]; exact bZ 6 hb_ rfl rfl rfl), fun h0_ => absurd ((hon 3 (by kernel_rfl)).symm.trans h0_) (by decide), Q_HK, Q_HB, fun _ h1_ => absurd ((hon 7 (by kernel_rfl)).symm.trans h1_) (by decide), Q_HO138, Q_HA_HO138, Q_HI0_e7, Q_HI0_e14, Q_X8_⟩
             refine steps_cons ?_ ?_
             ·rintro b a w' ⟨v137, adz_v137, m8_, ha, Q_HI0, Q_HK, Q_HB, Q_HI0_e3, Q_HO138, Q_HA_HO138, Q_HI0_e7, Q_HI0_e14, Q_X8_⟩ hb_ hon hoff
              refine ⟨_, rfl, fun K hK => ?_⟩
              have e42 : a.tmps[42]? = some (.string ((⟨#[40]⟩ : ByteArray) ++ t134)) := by rw [ha]; exact cA (e := (4, 42, .string ((⟨#[40]⟩ : ByteArray) ++ t134))) 2 rfl rfl (hon 4 (by kernel_rfl)) rfl
              have e47 : a.tmps[47]? = some (.string (rdOf ByteArray.empty y136 t139)) := by rw [ha]; exact cA (e := (9, 47, .string (rdOf ByteArray.empty y136 t139))) 6 rfl rfl (hon 9 (by kernel_rfl)) rfl
              replace ha := aM ha
              refine value_ (w1 := w') (v := .string (((⟨#[40]⟩ : ByteArray) ++ t134) ++ (rdOf ByteArray.empty y136 t139))) (by rfl) rfl ?_ ?_
              ·go_simp
              refine hK.out _ _ ⟨v137, adz_v137, m8_, (by rw [ha.out]; exact bZ 7 hb_ rfl rfl rfl), fun h0_ => absurd ((hon 3 (by kernel_rfl)).symm.trans h0_) (by decide), Q_HK, Q_HB, fun _ h1_ => absurd ((hon 7 (by kernel_rfl)).symm.trans h1_) (by decide), Q_HO138, Q_HA_HO138, Q_HI0_e7, Q_HI0_e14, Q_X8_⟩
             refine steps_cons ?_ ?_
             ·rintro b a w' ⟨v137, adz_v137, m8_, ha, Q_HI0, Q_HK, Q_HB, Q_HI0_e3, Q_HO138, Q_HA_HO138, Q_HI0_e7, Q_HI0_e14, Q_X8_⟩ hb_ hon hoff
              refine ⟨_, rfl, fun K hK => ?_⟩
              have e50 : a.tmps[50]? = some (.int .i64 a1) := by rw [ha]; exact (cB rfl).trans rfl
              replace ha := aM ha
              refine value_ (w1 := w') (v := .int .i64 (wrap64 (a1 - 1))) (by rfl) rfl ?_ ?_
              ·go_simp
               (try simp only [cS])
              refine hK.out _ _ ⟨v137, adz_v137, m8_, (by rw [ha.out]; exact bZ 8 hb_ rfl rfl rfl), Q_HI0, Q_HK, Q_HB, Q_HI0_e3, Q_HO138, Q_HA_HO138, Q_HI0_e7, fun h0_ => absurd ((hoff 14 (by kernel_rfl)).symm.trans h0_) (by decide), Q_X8_⟩
             refine steps_cons ?_ ?_
             ·rintro b a w' ⟨v137, adz_v137, m8_, ha, Q_HI0, Q_HK, Q_HB, Q_HI0_e3, Q_HO138, Q_HA_HO138, Q_HI0_e7, Q_HI0_e14, Q_X8_⟩ hb_ hon hoff
              refine ⟨_, rfl, fun K hK => ?_⟩
              have e49 : a.tmps[49]? = some (.pointer (some ⟨g, 0, none⟩)) := by rw [ha]; exact (cB rfl).trans rfl
              have e51 : a.tmps[51]? = some (.int .i64 (wrap64 (a1 - 1))) := by rw [ha]; exact cA (e := (13, 51, .int .i64 (wrap64 (a1 - 1)))) 8 rfl rfl (hon 13 (by kernel_rfl)) rfl
              replace ha := aM ha
              have HK := aM Q_HK
              have HB := aM Q_HB
              have HI0 := aM (Q_HI0_e7 (hon 7 (by kernel_rfl)) hb_)
              refine gO Try.func38 #[.pointer (some ⟨g, 0, none⟩), .int .i64 (wrap64 (a1 - 1))] (hargs := (by first | (simp only [aN, aQ, aT, Act.eval, Array.getD_eq_getD_getElem?, Option.getD_some, e49, e51]; done))) ?_
              with_reducible refine (ih kj2 (by have := HJ2.out; omega) g s0_0 t140 (wrap64 (a1 - 1)) t142 t143 w0 _ ?side1 ?side2 A42.out).mono ?_
              (case side1 => repeat ((with_reducible exact HI0.out)))
              (case side2 => repeat ((with_reducible exact HB.out)))
              rintro e w50 ⟨rfl, hi, hb, hk⟩
              refine ⟨_, rfl, ?_⟩
              have n0_ := aM (cK HK.out hk (.inl rfl))
              have n1_ := aM hb
              have n2_ := aM hi
              have z_HO138 := fun (h0_ : b 5 = true) => (show Kd.R Kd.string 9 w50 w.heap.size (fun _ => True) v137 y136 from by first | exact (bJ (cH (IsS63.apart (show IsS63 w0 _ g s0_0 t140 from by repeat ((with_reducible exact HI0.out))) (by exact (Q_HO138 h0_)) (by decide)) hk (fun _ h => h.2)) (fun _ h => h.1)))
              clear HK
              clear HB
              clear HI0
              have HK := n0_
              have HB := n1_
              have HI0 := n2_
              clear n0_ n1_ n2_
              (try clear hb)
              (try clear hk)
              (try clear hi)
              refine hK.out _ _ ⟨v137, adz_v137, m8_, (by rw [ha.out]; exact bZ 9 hb_ rfl rfl rfl), fun h0_ => absurd ((hon 3 (by kernel_rfl)).symm.trans h0_) (by decide), HK.out, HB.out, fun _ h1_ => absurd ((hon 7 (by kernel_rfl)).symm.trans h1_) (by decide), z_HO138, Q_HA_HO138, fun _ h1_ => absurd ((up_self b 14).symm.trans h1_) (by decide), fun _ => HI0.out, Q_X8_⟩
             refine steps_cons ?_ ?_
             ·rintro b a w' ⟨v137, adz_v137, m8_, ha, Q_HI0, Q_HK, Q_HB, Q_HI0_e3, Q_HO138, Q_HA_HO138, Q_HI0_e7, Q_HI0_e14, Q_X8_⟩ hb_ hon hoff
              refine ⟨_, rfl, fun K hK => ?_⟩
              have e48 : a.tmps[48]? = some (.string (((⟨#[40]⟩ : ByteArray) ++ t134) ++ (rdOf ByteArray.empty y136 t139))) := by rw [ha]; exact cA (e := (10, 48, .string (((⟨#[40]⟩ : ByteArray) ++ t134) ++ (rdOf ByteArray.empty y136 t139)))) 7 rfl rfl (hon 10 (by kernel_rfl)) rfl
              have e52 : a.tmps[52]? = some (.string t142) := by rw [ha]; exact cA (e := (14, 52, .string t142)) 9 rfl rfl (hon 14 (by kernel_rfl)) rfl
              replace ha := aM ha
              refine value_ (w1 := w') (v := .string ((((⟨#[40]⟩ : ByteArray) ++ t134) ++ (rdOf ByteArray.empty y136 t139)) ++ t142)) (by rfl) rfl ?_ ?_
              ·go_simp
              refine hK.out _ _ ⟨v137, adz_v137, m8_, (by rw [ha.out]; exact bZ 10 hb_ rfl rfl rfl), fun h0_ => absurd ((hon 3 (by kernel_rfl)).symm.trans h0_) (by decide), Q_HK, Q_HB, fun _ h1_ => absurd ((hon 7 (by kernel_rfl)).symm.trans h1_) (by decide), Q_HO138, Q_HA_HO138, fun _ h1_ => absurd ((hon 14 (by kernel_rfl)).symm.trans h1_) (by decide), Q_HI0_e14, Q_X8_⟩
             refine steps_cons ?_ ?_
             ·rintro b a w' ⟨v137, adz_v137, m8_, ha, Q_HI0, Q_HK, Q_HB, Q_HI0_e3, Q_HO138, Q_HA_HO138, Q_HI0_e7, Q_HI0_e14, Q_X8_⟩ hb_ hon hoff
              refine ⟨_, rfl, fun K hK => ?_⟩
              have e53 : a.tmps[53]? = some (.string ((((⟨#[40]⟩ : ByteArray) ++ t134) ++ (rdOf ByteArray.empty y136 t139)) ++ t142)) := by rw [ha]; exact cA (e := (15, 53, .string ((((⟨#[40]⟩ : ByteArray) ++ t134) ++ (rdOf ByteArray.empty y136 t139)) ++ t142))) 10 rfl rfl (hon 15 (by kernel_rfl)) rfl
              replace ha := aM ha
              refine value_ (w1 := w') (v := .string (((((⟨#[40]⟩ : ByteArray) ++ t134) ++ (rdOf ByteArray.empty y136 t139)) ++ t142) ++ (⟨#[41]⟩ : ByteArray))) (by rfl) rfl ?_ ?_
              ·go_simp
              refine hK.out _ _ ⟨v137, adz_v137, m8_, (by rw [ha.out]; exact bZ 11 hb_ rfl rfl rfl), fun h0_ => absurd ((hon 3 (by kernel_rfl)).symm.trans h0_) (by decide), Q_HK, Q_HB, fun _ h1_ => absurd ((hon 7 (by kernel_rfl)).symm.trans h1_) (by decide), Q_HO138, Q_HA_HO138, fun _ h1_ => absurd ((hon 14 (by kernel_rfl)).symm.trans h1_) (by decide), Q_HI0_e14, Q_X8_⟩
             refine steps_cons ?_ ?_
             ·rintro b a w' ⟨v137, adz_v137, m8_, ha, Q_HI0, Q_HK, Q_HB, Q_HI0_e3, Q_HO138, Q_HA_HO138, Q_HI0_e7, Q_HI0_e14, Q_X8_⟩ hb_ hon hoff
              refine ⟨_, rfl, fun K hK => ?_⟩
              have e54 : a.tmps[54]? = some (.string (((((⟨#[40]⟩ : ByteArray) ++ t134) ++ (rdOf ByteArray.empty y136 t139)) ++ t142) ++ (⟨#[41]⟩ : ByteArray))) := by rw [ha]; exact cA (e := (16, 54, .string (((((⟨#[40]⟩ : ByteArray) ++ t134) ++ (rdOf ByteArray.empty y136 t139)) ++ t142) ++ (⟨#[41]⟩ : ByteArray)))) 11 rfl rfl (hon 16 (by kernel_rfl)) rfl
              replace ha := aM ha
              refine value_ (w1 := w') (v := .string (((((⟨#[40]⟩ : ByteArray) ++ t134) ++ (rdOf ByteArray.empty y136 t139)) ++ t142) ++ (⟨#[41]⟩ : ByteArray))) (by rfl) rfl ?_ ?_
              ·go_simp
              refine hK.out _ _ ⟨v137, adz_v137, m8_, (by rw [ha.out]; exact bZ 12 hb_ rfl rfl rfl), fun h0_ => absurd ((hon 3 (by kernel_rfl)).symm.trans h0_) (by decide), Q_HK, Q_HB, fun _ h1_ => absurd ((hon 7 (by kernel_rfl)).symm.trans h1_) (by decide), Q_HO138, Q_HA_HO138, fun _ h1_ => absurd ((hon 14 (by kernel_rfl)).symm.trans h1_) (by decide), Q_HI0_e14, Q_X8_⟩
             exact steps_nil
            rintro b a w53 hall ⟨v137, adz_v137, m8_, ha, Q_HI0, Q_HK, Q_HB, Q_HI0_e3, Q_HO138, Q_HA_HO138, Q_HI0_e7, Q_HI0_e14, Q_X8_⟩
            clear HB HI0 HK
            have hb2_ := hall 2 (by kernel_rfl)
            have hb3_ := hall 3 (by kernel_rfl)
            have hb4_ := hall 4 (by kernel_rfl)
            have hb5_ := hall 5 (by kernel_rfl)
            have hb7_ := hall 7 (by kernel_rfl)
            have hb8_ := hall 8 (by kernel_rfl)
            have hb9_ := hall 9 (by kernel_rfl)
            have hb10_ := hall 10 (by kernel_rfl)
            have hb13_ := hall 13 (by kernel_rfl)
            have hb14_ := hall 14 (by kernel_rfl)
            have hb15_ := hall 15 (by kernel_rfl)
            have hb16_ := hall 16 (by kernel_rfl)
            have hb17_ := hall 17 (by kernel_rfl)
            subst ha
            obtain rfl := Q_X8_ hb8_
            simp only [putSel, hb2_, hb3_, hb4_, hb5_, hb7_, hb8_, hb9_, hb10_, hb13_, hb14_, hb15_, hb16_, hb17_, if_true, Act.put, sA, sZ, sS]
            clear Q_HI0
            have HK := aM Q_HK
            clear Q_HK
            have HB := aM Q_HB
            clear Q_HB
            clear Q_HI0_e3
            have HO138 := aM (Q_HO138 hb5_)
            clear Q_HO138
            have HA_HO138 := aM (Q_HA_HO138 hb5_)
            clear Q_HA_HO138
            clear Q_HI0_e7
            have HI0 := aM (Q_HI0_e14 hb14_)
            clear Q_HI0_e14
            clear hall hb2_ hb3_ hb4_ hb5_ hb7_ hb8_ hb9_ hb10_ hb13_ hb14_ hb15_ hb16_ hb17_
            obtain ⟨co54, eo54⟩ := HA_HO138.out
            clear HA_HO138
            subst eo54
            try go_wp2
            go_ret
            exact ⟨by first | rfl | (simp [*, errW_none, errW_some] <;> rfl), HI0.out, HB.out, HK.out⟩
           ·rw [if_neg c44] at H
            exact absurd H (by simp)
          ·rw [if_neg c43] at H
           exact absurd H (by simp)
         ·rw [if_neg c41] at H
          exact absurd H (by simp)
        ·rw [if_neg c40] at H
         exact absurd H (by simp)
       ·rw [if_neg c39] at H
        exact absurd H (by simp)
      ·rw [if_neg c37] at H
       exact absurd H (by simp)


def spec_l91Said.f (k : Nat) (s0_0 : List Int) (s0_1 : Int) : Option (ByteArray × Int) := (spec_l6Rd_pick.f k s0_0 s0_1 4).bind fun bt144 => ((spec_l91Term.f k s0_0 bt144.2 bt144.1).bind fun bt146 => ((spec_l6Rd_pick.f k s0_0 bt146.2 16).bind fun bt148 => (if bt148.1 = 0 then ((spec_l6Rd_pick.f k s0_0 bt148.2 (wrap64 ((bt146.1.size : Int) + 1))).bind fun bt150 => (if 0 ≤ bt150.1 then (if bt150.1 ≤ (bt146.1.size : Int) then ((some (([(⟨#[]⟩ : ByteArray), (⟨#[98]⟩ : ByteArray), (⟨#[40]⟩ : ByteArray), (⟨#[41]⟩ : ByteArray), (⟨#[43]⟩ : ByteArray)] : List ByteArray) : List ByteArray)).bind fun y152 => ((spec_l6Rd_pick.f k s0_0 bt150.2 5).bind fun bt155 => (if 0 ≤ bt155.1 then (if bt155.1 < (y152.length : Int) then (if (bt146.1.extract 0 (bt150.1 : Int).toNat).size + (rdOf ByteArray.empty y152 bt155.1).size ≤ 9223372036854775807 then (if (bt146.1.extract 0 (bt150.1 : Int).toNat).size + (rdOf ByteArray.empty y152 bt155.1).size + (bt146.1.extract (bt150.1 : Int).toNat bt146.1.size).size ≤ 9223372036854775807 then (some (((bt146.1.extract 0 (bt150.1 : Int).toNat) ++ (rdOf ByteArray.empty y152 bt155.1)) ++ (bt146.1.extract (bt150.1 : Int).toNat bt146.1.size), bt155.2)) else (none)) else (none)) else (none)) else (none)))) else (none)) else (none))) else (some (bt146.1, bt148.2)))))
def spec_l91Said.T4 : Bool × List (List Nat × List Nat) := (true, [([], []), ([], []), ([0, 1], [0, 1]), ([], []), ([], []), ([4], [4]), ([3, 5], [3, 5]), ([6], [6]), ([2, 7], [2, 7]), ([], []), ([], []), ([9, 10], [9, 10]), ([8, 11], [8, 11]), ([12, 5, 0, 1, 2, 3, 4, 5, 6, 7, 8, 9, 10, 11, 12], [12])])
def spec_l91Said.B4 : List Nat := [0, 0, 3, 0, 0, 16, 56, 120, 255, 0, 0, 1536, 4095, 8191]
theorem spec_l91Said.tab4 : rtab .any (opsOf Try.f23 4) = spec_l91Said.T4 := by kernel_rfl
theorem spec_l91Said.bits4 : waitsOk spec_l91Said.T4.2 spec_l91Said.B4 = true := by kernel_rfl
set_option maxHeartbeats 8000000 in
set_option maxRecDepth 100000 in
theorem spec_l91Said.calls (k : Nat) (g : Nat) (s0_0 : List Int) (s0_1 : Int) (r1 : ByteArray) (r2 : Int) (w0 w : World) (hI : IsS63 w0 w g s0_0 s0_1) (hB : Below w0.heap.size w0 w) (h : spec_l91Said.f k s0_0 s0_1 = some (r1, r2)) :
  Calls Try.prog 23 #[.pointer (some ⟨g, 0, none⟩)] w fun e w' => e = .returned (.string r1) ∧ IsS63 w0 w' g s0_0 r2 ∧ Below w0.heap.size w0 w' ∧ KeepBut w w' g none := by
 have HI0 := aM hI
 have HK := aM (KeepBut.refl w g none)
 clear hI
 have HB := aM hB
 clear hB
 have H : ((spec_l6Rd_pick.f k s0_0 s0_1 4).bind fun bt144 => ((spec_l91Term.f k s0_0 bt144.2 bt144.1).bind fun bt146 => ((spec_l6Rd_pick.f k s0_0 bt146.2 16).bind fun bt148 => (if bt148.1 = 0 then ((spec_l6Rd_pick.f k s0_0 bt148.2 (wrap64 ((bt146.1.size : Int) + 1))).bind fun bt150 => (if 0 ≤ bt150.1 then (if bt150.1 ≤ (bt146.1.size : Int) then ((some (([(⟨#[]⟩ : ByteArray), (⟨#[98]⟩ : ByteArray), (⟨#[40]⟩ : ByteArray), (⟨#[41]⟩ : ByteArray), (⟨#[43]⟩ : ByteArray)] : List ByteArray) : List ByteArray)).bind fun y152 => ((spec_l6Rd_pick.f k s0_0 bt150.2 5).bind fun bt155 => (if 0 ≤ bt155.1 then (if bt155.1 < (y152.length : Int) then (if (bt146.1.extract 0 (bt150.1 : Int).toNat).size + (rdOf ByteArray.empty y152 bt155.1).size ≤ 9223372036854775807 then (if (bt146.1.extract 0 (bt150.1 : Int).toNat).size + (rdOf ByteArray.empty y152 bt155.1).size + (bt146.1.extract (bt150.1 : Int).toNat bt146.1.size).size ≤ 9223372036854775807 then (some (((bt146.1.extract 0 (bt150.1 : Int).toNat) ++ (rdOf ByteArray.empty y152 bt155.1)) ++ (bt146.1.extract (bt150.1 : Int).toNat bt146.1.size), bt155.2)) else (none)) else (none)) else (none)) else (none)))) else (none)) else (none))) else (some (bt146.1, bt148.2)))))) = some (r1, r2) := h
 clear h
 replace H := Option.bind_eq_some_iff.mp H
 obtain ⟨⟨t144, t145⟩, A20, H⟩ := H
 replace H : ((spec_l91Term.f k s0_0 t145 t144).bind fun bt146 => ((spec_l6Rd_pick.f k s0_0 bt146.2 16).bind fun bt148 => (if bt148.1 = 0 then ((spec_l6Rd_pick.f k s0_0 bt148.2 (wrap64 ((bt146.1.size : Int) + 1))).bind fun bt150 => (if 0 ≤ bt150.1 then (if bt150.1 ≤ (bt146.1.size : Int) then ((some (([(⟨#[]⟩ : ByteArray), (⟨#[98]⟩ : ByteArray), (⟨#[40]⟩ : ByteArray), (⟨#[41]⟩ : ByteArray), (⟨#[43]⟩ : ByteArray)] : List ByteArray) : List ByteArray)).bind fun y152 => ((spec_l6Rd_pick.f k s0_0 bt150.2 5).bind fun bt155 => (if 0 ≤ bt155.1 then (if bt155.1 < (y152.length : Int) then (if (bt146.1.extract 0 (bt150.1 : Int).toNat).size + (rdOf ByteArray.empty y152 bt155.1).size ≤ 9223372036854775807 then (if (bt146.1.extract 0 (bt150.1 : Int).toNat).size + (rdOf ByteArray.empty y152 bt155.1).size + (bt146.1.extract (bt150.1 : Int).toNat bt146.1.size).size ≤ 9223372036854775807 then (some (((bt146.1.extract 0 (bt150.1 : Int).toNat) ++ (rdOf ByteArray.empty y152 bt155.1)) ++ (bt146.1.extract (bt150.1 : Int).toNat bt146.1.size), bt155.2)) else (none)) else (none)) else (none)) else (none)))) else (none)) else (none))) else (some (bt146.1, bt148.2))))) = some (r1, r2) := H
 have A2 := aM A20
 clear A20
 replace H := Option.bind_eq_some_iff.mp H
 obtain ⟨⟨t146, t147⟩, A30, H⟩ := H
 replace H : ((spec_l6Rd_pick.f k s0_0 t147 16).bind fun bt148 => (if bt148.1 = 0 then ((spec_l6Rd_pick.f k s0_0 bt148.2 (wrap64 ((t146.size : Int) + 1))).bind fun bt150 => (if 0 ≤ bt150.1 then (if bt150.1 ≤ (t146.size : Int) then ((some (([(⟨#[]⟩ : ByteArray), (⟨#[98]⟩ : ByteArray), (⟨#[40]⟩ : ByteArray), (⟨#[41]⟩ : ByteArray), (⟨#[43]⟩ : ByteArray)] : List ByteArray) : List ByteArray)).bind fun y152 => ((spec_l6Rd_pick.f k s0_0 bt150.2 5).bind fun bt155 => (if 0 ≤ bt155.1 then (if bt155.1 < (y152.length : Int) then (if (t146.extract 0 (bt150.1 : Int).toNat).size + (rdOf ByteArray.empty y152 bt155.1).size ≤ 9223372036854775807 then (if (t146.extract 0 (bt150.1 : Int).toNat).size + (rdOf ByteArray.empty y152 bt155.1).size + (t146.extract (bt150.1 : Int).toNat t146.size).size ≤ 9223372036854775807 then (some (((t146.extract 0 (bt150.1 : Int).toNat) ++ (rdOf ByteArray.empty y152 bt155.1)) ++ (t146.extract (bt150.1 : Int).toNat t146.size), bt155.2)) else (none)) else (none)) else (none)) else (none)))) else (none)) else (none))) else (some (t146, bt148.2)))) = some (r1, r2) := H
 have A3 := aM A30
 clear A30
 replace H := Option.bind_eq_some_iff.mp H
 obtain ⟨⟨t148, t149⟩, A40, H⟩ := H
 replace H : (if t148 = 0 then ((spec_l6Rd_pick.f k s0_0 t149 (wrap64 ((t146.size : Int) + 1))).bind fun bt150 => (if 0 ≤ bt150.1 then (if bt150.1 ≤ (t146.size : Int) then ((some (([(⟨#[]⟩ : ByteArray), (⟨#[98]⟩ : ByteArray), (⟨#[40]⟩ : ByteArray), (⟨#[41]⟩ : ByteArray), (⟨#[43]⟩ : ByteArray)] : List ByteArray) : List ByteArray)).bind fun y152 => ((spec_l6Rd_pick.f k s0_0 bt150.2 5).bind fun bt155 => (if 0 ≤ bt155.1 then (if bt155.1 < (y152.length : Int) then (if (t146.extract 0 (bt150.1 : Int).toNat).size + (rdOf ByteArray.empty y152 bt155.1).size ≤ 9223372036854775807 then (if (t146.extract 0 (bt150.1 : Int).toNat).size + (rdOf ByteArray.empty y152 bt155.1).size + (t146.extract (bt150.1 : Int).toNat t146.size).size ≤ 9223372036854775807 then (some (((t146.extract 0 (bt150.1 : Int).toNat) ++ (rdOf ByteArray.empty y152 bt155.1)) ++ (t146.extract (bt150.1 : Int).toNat t146.size), bt155.2)) else (none)) else (none)) else (none)) else (none)))) else (none)) else (none))) else (some (t146, t149))) = some (r1, r2) := H
 have A4 := aM A40
 clear A40
 by_cases c5 : t148 = 0
 ·rw [if_pos c5] at H
  have c5b0 : (t148 == 0) = true := beq_iff_eq.mpr c5
  clear c5
  replace H := Option.bind_eq_some_iff.mp H
  obtain ⟨⟨t150, t151⟩, A60, H⟩ := H
  replace H : (if 0 ≤ t150 then (if t150 ≤ (t146.size : Int) then ((some (([(⟨#[]⟩ : ByteArray), (⟨#[98]⟩ : ByteArray), (⟨#[40]⟩ : ByteArray), (⟨#[41]⟩ : ByteArray), (⟨#[43]⟩ : ByteArray)] : List ByteArray) : List ByteArray)).bind fun y152 => ((spec_l6Rd_pick.f k s0_0 t151 5).bind fun bt155 => (if 0 ≤ bt155.1 then (if bt155.1 < (y152.length : Int) then (if (t146.extract 0 (t150 : Int).toNat).size + (rdOf ByteArray.empty y152 bt155.1).size ≤ 9223372036854775807 then (if (t146.extract 0 (t150 : Int).toNat).size + (rdOf ByteArray.empty y152 bt155.1).size + (t146.extract (t150 : Int).toNat t146.size).size ≤ 9223372036854775807 then (some (((t146.extract 0 (t150 : Int).toNat) ++ (rdOf ByteArray.empty y152 bt155.1)) ++ (t146.extract (t150 : Int).toNat t146.size), bt155.2)) else (none)) else (none)) else (none)) else (none)))) else (none)) else (none)) = some (r1, r2) := H
  have A6 := aM A60
  clear A60
  by_cases c7 : 0 ≤ t150
  ·rw [if_pos c7] at H
   have c7b0 := eq_true c7
   have c7b1 : decide (0 ≤ t150) = true := aH c7
   clear c7
   by_cases c8 : t150 ≤ (t146.size : Int)
   ·rw [if_pos c8] at H
    have c8b0 := eq_true c8
    have c8b1 : decide (t150 ≤ (t146.size : Int)) = true := aH c8
    clear c8
    obtain ⟨y152, hy152⟩ : ∃ y_ : List ByteArray, y_ = (([(⟨#[]⟩ : ByteArray), (⟨#[98]⟩ : ByteArray), (⟨#[40]⟩ : ByteArray), (⟨#[41]⟩ : ByteArray), (⟨#[43]⟩ : ByteArray)] : List ByteArray)) := ⟨_, rfl⟩
    replace H : ((spec_l6Rd_pick.f k s0_0 t151 5).bind fun bt155 => (if 0 ≤ bt155.1 then (if bt155.1 < (y152.length : Int) then (if (t146.extract 0 (t150 : Int).toNat).size + (rdOf ByteArray.empty y152 bt155.1).size ≤ 9223372036854775807 then (if (t146.extract 0 (t150 : Int).toNat).size + (rdOf ByteArray.empty y152 bt155.1).size + (t146.extract (t150 : Int).toNat t146.size).size ≤ 9223372036854775807 then (some (((t146.extract 0 (t150 : Int).toNat) ++ (rdOf ByteArray.empty y152 bt155.1)) ++ (t146.extract (t150 : Int).toNat t146.size), bt155.2)) else (none)) else (none)) else (none)) else (none))) = some (r1, r2) := by first | (have H2_ := (bR _ _).symm.trans H; rw [hy152]; with_reducible exact H2_)
    have Ny152 := aM hy152
    clear hy152
    replace H := Option.bind_eq_some_iff.mp H
    obtain ⟨⟨t155, t156⟩, A90, H⟩ := H
    replace H : (if 0 ≤ t155 then (if t155 < (y152.length : Int) then (if (t146.extract 0 (t150 : Int).toNat).size + (rdOf ByteArray.empty y152 t155).size ≤ 9223372036854775807 then (if (t146.extract 0 (t150 : Int).toNat).size + (rdOf ByteArray.empty y152 t155).size + (t146.extract (t150 : Int).toNat t146.size).size ≤ 9223372036854775807 then (some (((t146.extract 0 (t150 : Int).toNat) ++ (rdOf ByteArray.empty y152 t155)) ++ (t146.extract (t150 : Int).toNat t146.size), t156)) else (none)) else (none)) else (none)) else (none)) = some (r1, r2) := H
    have A9 := aM A90
    clear A90
    by_cases c10 : 0 ≤ t155
    ·rw [if_pos c10] at H
     have c10b0 : decide (0 ≤ t155) = true := aH c10
     clear c10
     by_cases c11 : t155 < (y152.length : Int)
     ·rw [if_pos c11] at H
      have c11b0 : decide (t155 < (y152.length : Int)) = true := aH c11
      clear c11
      by_cases c12 : (t146.extract 0 (t150 : Int).toNat).size + (rdOf ByteArray.empty y152 t155).size ≤ 9223372036854775807
      ·rw [if_pos c12] at H
       have c12b0 := eq_true c12
       have c12b1 : decide ((t146.extract 0 (t150 : Int).toNat).size + (rdOf ByteArray.empty y152 t155).size ≤ 9223372036854775807) = true := aH c12
       try have c12b2 : (9223372036854775807 < (t146.extract 0 (t150 : Int).toNat).size + (rdOf ByteArray.empty y152 t155).size) = False := eq_false (Nat.not_lt.2 c12)
       have c13b0 := eq_true (aJ (by (with_reducible assumption)) : 0 ≤ t150)
       have c14b0 := eq_true (aJ (by (with_reducible assumption)) : t150 ≤ (t146.size : Int))
       by_cases c15 : (t146.extract 0 (t150 : Int).toNat).size + (rdOf ByteArray.empty y152 t155).size + (t146.extract (t150 : Int).toNat t146.size).size ≤ 9223372036854775807
       ·rw [if_pos c15] at H
        try have c15b2 : (9223372036854775807 < (t146.extract 0 (t150 : Int).toNat).size + (rdOf ByteArray.empty y152 t155).size + (t146.extract (t150 : Int).toNat t146.size).size) = False := eq_false (Nat.not_lt.2 c15)
        simp only [aV, aW] at H
        obtain ⟨rfl, rfl⟩ := H
        go_enter Try.func23, Try.ntmps23
        try go_wp2_with (first | ((with_reducible refine aY (f := 24) rfl ?_); refine gL 7 Try.func24 #[.pointer (some ⟨g, 0, none⟩), .int .i64 4] ?_; (with_reducible refine (spec_l6Rd_pick.calls k g s0_0 s0_1 4 t144 t145 w0 _ ?side1 ?side2 A2.out).mono ?_); (case side1 => repeat ((with_reducible exact HI0.out))); (case side2 => repeat ((with_reducible exact HB.out))); rintro e w16 ⟨rfl, hi, hb, hk⟩; refine ⟨_, rfl, ?_⟩; replace HK := aM (cK HK.out hk (.inl rfl)); replace HB := aM hb; replace HI0 := aM hi; (try clear hb); (try clear hk); (try clear hi)) | ((with_reducible refine aY (f := 38) rfl ?_); refine gL 8 Try.func38 #[.pointer (some ⟨g, 0, none⟩), .int .i64 t144] ?_; (with_reducible refine (spec_l91Term.calls k g s0_0 t145 t144 t146 t147 w0 _ ?side1 ?side2 A3.out).mono ?_); (case side1 => repeat ((with_reducible exact HI0.out))); (case side2 => repeat ((with_reducible exact HB.out))); rintro e w17 ⟨rfl, hi, hb, hk⟩; refine ⟨_, rfl, ?_⟩; replace HK := aM (cK HK.out hk (.inl rfl)); replace HB := aM hb; replace HI0 := aM hi; (try clear hb); (try clear hk); (try clear hi)) | ((with_reducible refine aY (f := 24) rfl ?_); refine gL 10 Try.func24 #[.pointer (some ⟨g, 0, none⟩), .int .i64 16] ?_; (with_reducible refine (spec_l6Rd_pick.calls k g s0_0 t147 16 t148 t149 w0 _ ?side1 ?side2 A4.out).mono ?_); (case side1 => repeat ((with_reducible exact HI0.out))); (case side2 => repeat ((with_reducible exact HB.out))); rintro e w18 ⟨rfl, hi, hb, hk⟩; refine ⟨_, rfl, ?_⟩; replace HK := aM (cK HK.out hk (.inl rfl)); replace HB := aM hb; replace HI0 := aM hi; (try clear hb); (try clear hk); (try clear hi)) | ((with_reducible refine aY (f := 24) rfl ?_); refine gL 16 Try.func24 #[.pointer (some ⟨g, 0, none⟩), .int .i64 (wrap64 ((t146.size : Int) + 1))] ?_; (with_reducible refine (spec_l6Rd_pick.calls k g s0_0 t149 (wrap64 ((t146.size : Int) + 1)) t150 t151 w0 _ ?side1 ?side2 A6.out).mono ?_); (case side1 => repeat ((with_reducible exact HI0.out))); (case side2 => repeat ((with_reducible exact HB.out))); rintro e w19 ⟨rfl, hi, hb, hk⟩; refine ⟨_, rfl, ?_⟩; replace HK := aM (cK HK.out hk (.inl rfl)); replace HB := aM hb; replace HI0 := aM hi; (try clear hb); (try clear hk); (try clear hi)))
        have pi157 : (0 ≤ (t155 : Int)) = True := eq_true (aJ (by (with_reducible assumption)))
        have qi157 : (t155 < (y152.length : Int)) = True := eq_true (aJ (by (with_reducible assumption)))
        replace HI0 := aM (IsS63.drew HI0.out)
        replace HK := aM (keep_drew HK.out)
        replace HB := aM (b1 HB.out)
        refine start_ (n := 14) (S := fun w' => True) (ds := []) #[false, false, false, false, false, false, false, false, false, false, false, false, false, false] (by kernel_rfl) rfl rfl trivial (fun hHeld => ?_); refine with_tabW spec_l91Said.tab4 spec_l91Said.bits4 (fun HT_ HW_ => ?_)
        generalize w19.drew = w20 at HI0 HK HB hHeld ⊢
        refine pQ 0 17 HT_ ?_
        refine pQ 1 18 HT_ ?_
        refine pQ 4 21 HT_ ?_
        refine pQ 9 26 HT_ ?_
        refine pQ 10 27 HT_ ?_
        refine inv_at [2, 3, 5, 6, 7, 8, 11, 12, 13] (fun a0_ b a w' => ∃ (v153 : Value) (adz_v153 : Addr) (m6_ : Value), a = putSel a0_ b [(2, 19, .string (t146.extract 0 (t150 : Int).toNat)), (3, 20, v153), (5, 22, .int .i64 t155), (6, 23, m6_), (7, 24, .string (rdOf ByteArray.empty y152 t155)), (8, 25, .string ((t146.extract 0 (t150 : Int).toNat) ++ (rdOf ByteArray.empty y152 t155))), (11, 28, .string (t146.extract (t150 : Int).toNat t146.size)), (12, 29, .string (((t146.extract 0 (t150 : Int).toNat) ++ (rdOf ByteArray.empty y152 t155)) ++ (t146.extract (t150 : Int).toNat t146.size))), (13, 2, .string (((t146.extract 0 (t150 : Int).toNat) ++ (rdOf ByteArray.empty y152 t155)) ++ (t146.extract (t150 : Int).toNat t146.size)))] ∧ (b 5 = false → IsS63 w0 w' g s0_0 t151) ∧ (KeepBut w w' g none) ∧ (Below w0.heap.size w0 w') ∧ (b 3 = true → Kd.R Kd.string 9 w' w.heap.size (fun _ => True) v153 y152) ∧ (b 3 = true → ∃ c_, (v153 : Value) = .slice (some adz_v153) y152.length c_) ∧ (b 5 = true → IsS63 w0 w' g s0_0 t156) ∧ (b 6 = true → (m6_ : Value) = .pointer (some (adz_v153.add (t155).toNat)))) HT_.out HW_.out (by kernel_rfl) (by kernel_rfl) ?_ ?_ ?_
        ·exact ⟨.bool false, ⟨0, 0, none⟩, .bool false, by simp only [putSel, bX, if_false], fun _ => HI0.out, HK.out, HB.out, fun h_ => absurd h_ (by decide), fun h_ => absurd h_ (by decide), fun h_ => absurd h_ (by decide), fun h_ => absurd h_ (by decide)⟩
        ·skip
         clear HB HI0 HK
         refine steps_cons ?_ ?_
         ·rintro b a w' ⟨v153, adz_v153, m6_, ha, Q_HI0, Q_HK, Q_HB, Q_HO154, Q_HA_HO154, Q_HI0_e5, Q_X6_⟩ hb_ hon hoff
          refine ⟨_, rfl, fun K hK => ?_⟩
          have e17 : a.tmps[17]? = some (.string t146) := by rw [ha]; exact (cB rfl).trans rfl
          have e18 : a.tmps[18]? = some (.int .i64 t150) := by rw [ha]; exact (cB rfl).trans rfl
          replace ha := aM ha
          refine value_ (w1 := w') (v := .string (t146.extract 0 (t150 : Int).toNat)) (by rfl) rfl ?_ ?_
          ·go_simp
          refine hK.out _ _ ⟨v153, adz_v153, m6_, (by rw [ha.out]; exact bZ 0 hb_ rfl rfl rfl), Q_HI0, Q_HK, Q_HB, Q_HO154, Q_HA_HO154, Q_HI0_e5, Q_X6_⟩
         refine steps_cons ?_ ?_
         ·rintro b a w' ⟨v153, adz_v153, m6_, ha, Q_HI0, Q_HK, Q_HB, Q_HO154, Q_HA_HO154, Q_HI0_e5, Q_X6_⟩ hb_ hon hoff
          refine ⟨_, rfl, fun K hK => ?_⟩
          replace ha := aM ha
          have HK := aM Q_HK
          have HB := aM Q_HB
          refine Kd.R_lit_step Kd.string _ 9 ?hg (N := 20) ?hd (xs := ([(⟨#[]⟩ : ByteArray), (⟨#[98]⟩ : ByteArray), (⟨#[40]⟩ : ByteArray), (⟨#[41]⟩ : ByteArray), (⟨#[43]⟩ : ByteArray)] : List ByteArray)) (inner := [.string (⟨#[]⟩ : ByteArray), .string (⟨#[98]⟩ : ByteArray), .string (⟨#[40]⟩ : ByteArray), .string (⟨#[41]⟩ : ByteArray), .string (⟨#[43]⟩ : ByteArray)]) (ok := fun _ => True) (okp := fun _ => True) ?hr ?hp (fun _ hk => hk) trivial (cE _ _) (cD _) (by simp) ?_; (case hd => rfl); (case hg => rfl); (case hr => first | (go_simp; done)); (case hp => exact (Reps.one (show Kd.M Kd.string _ _ _ (⟨#[]⟩ : ByteArray) [.string (⟨#[]⟩ : ByteArray)] from rfl) (Reps.one (show Kd.M Kd.string _ _ _ (⟨#[98]⟩ : ByteArray) [.string (⟨#[98]⟩ : ByteArray)] from rfl) (Reps.one (show Kd.M Kd.string _ _ _ (⟨#[40]⟩ : ByteArray) [.string (⟨#[40]⟩ : ByteArray)] from rfl) (Reps.one (show Kd.M Kd.string _ _ _ (⟨#[41]⟩ : ByteArray) [.string (⟨#[41]⟩ : ByteArray)] from rfl) (Reps.one (show Kd.M Kd.string _ _ _ (⟨#[43]⟩ : ByteArray) [.string (⟨#[43]⟩ : ByteArray)] from rfl) (Reps.none _ _)))))))
          intro v153 w21 ho22 hb hg_ hnew_
          clear hg_ hnew_
          (rw [← Ny152.out] at ho22)
          have n0_ := aM (bP ho22 (keep_size (w := w) (g := g) (row := none) HK.out))
          have n2_ := aM (cK HK.out (KeepBut.of_below hb g none) (.inl rfl))
          have n3_ := aM (aE HB.out hb)
          have z_HI0 := fun (h0_ : b 5 = false) => (show IsS63 w0 w21 g s0_0 t151 from by exact (IsS63.below (by repeat ((with_reducible exact (Q_HI0 h0_)))) hb))
          have z_HI0_e5 := fun (h0_ : b 5 = true) => (show IsS63 w0 w21 g s0_0 t156 from by exact (IsS63.below (by repeat ((with_reducible exact (Q_HI0_e5 h0_)))) hb))
          clear HK
          clear HB
          have HO154 := n0_
          have HK := n2_
          have HB := n3_
          clear n0_ n2_ n3_
          clear hb ho22
          obtain ⟨Ao23, co23, eo23⟩ := bL HO154.out
          subst eo23
          obtain ⟨ado23, fo23, _⟩ := cR (bM HO154.out).2.2 0 (by decide) (by rw [Ny152.out]; simp)
          cases fo23
          refine hK.out _ _ ⟨.slice (some ado23) y152.length co23, ado23, m6_, (by rw [ha.out]; exact bZ 1 hb_ rfl rfl rfl), z_HI0, HK.out, HB.out, fun _ => HO154.out, fun _ => ⟨_, rfl⟩, z_HI0_e5, fun h0_ => absurd ((hoff 6 (by kernel_rfl)).symm.trans h0_) (by decide)⟩
         refine steps_cons ?_ ?_
         ·rintro b a w' ⟨v153, adz_v153, m6_, ha, Q_HI0, Q_HK, Q_HB, Q_HO154, Q_HA_HO154, Q_HI0_e5, Q_X6_⟩ hb_ hon hoff
          refine ⟨_, rfl, fun K hK => ?_⟩
          have e21 : a.tmps[21]? = some (.pointer (some ⟨g, 0, none⟩)) := by rw [ha]; exact (cB rfl).trans rfl
          replace ha := aM ha
          have HI0 := aM (Q_HI0 hb_)
          have HK := aM Q_HK
          have HB := aM Q_HB
          refine gO Try.func24 #[.pointer (some ⟨g, 0, none⟩), .int .i64 5] (hargs := (by first | (simp only [aN, aQ, aT, Act.eval, Array.getD_eq_getD_getElem?, Option.getD_some, e21]; done))) ?_
          with_reducible refine (spec_l6Rd_pick.calls k g s0_0 t151 5 t155 t156 w0 _ ?side1 ?side2 A9.out).mono ?_
          (case side1 => repeat ((with_reducible exact HI0.out)))
          (case side2 => repeat ((with_reducible exact HB.out)))
          rintro e w21 ⟨rfl, hi, hb, hk⟩
          refine ⟨_, rfl, ?_⟩
          have n0_ := aM (cK HK.out hk (.inl rfl))
          have n1_ := aM hb
          have n2_ := aM hi
          have z_HO154 := fun (h0_ : b 3 = true) => (show Kd.R Kd.string 9 w21 w.heap.size (fun _ => True) v153 y152 from by first | exact (bJ (cH (IsS63.apart (show IsS63 w0 _ g s0_0 t151 from by repeat ((with_reducible exact HI0.out))) (by exact (Q_HO154 h0_)) (by decide)) hk (fun _ h => h.2)) (fun _ h => h.1)))
          clear HK
          clear HB
          clear HI0
          have HK := n0_
          have HB := n1_
          have HI0 := n2_
          clear n0_ n1_ n2_
          (try clear hb)
          (try clear hk)
          (try clear hi)
          refine hK.out _ _ ⟨v153, adz_v153, m6_, (by rw [ha.out]; exact bZ 2 hb_ rfl rfl rfl), fun h0_ => absurd ((up_self b 5).symm.trans h0_) (by decide), HK.out, HB.out, z_HO154, Q_HA_HO154, fun _ => HI0.out, fun h0_ => absurd ((hoff 6 (by kernel_rfl)).symm.trans h0_) (by decide)⟩
         refine steps_cons ?_ ?_
         ·rintro b a w' ⟨v153, adz_v153, m6_, ha, Q_HI0, Q_HK, Q_HB, Q_HO154, Q_HA_HO154, Q_HI0_e5, Q_X6_⟩ hb_ hon hoff
          refine ⟨_, rfl, fun K hK => ?_⟩
          have e20 : a.tmps[20]? = some (v153) := by rw [ha]; exact cA (e := (3, 20, v153)) 1 rfl rfl (hon 3 (by kernel_rfl)) rfl
          have e22 : a.tmps[22]? = some (.int .i64 t155) := by rw [ha]; exact cA (e := (5, 22, .int .i64 t155)) 2 rfl rfl (hon 5 (by kernel_rfl)) rfl
          replace ha := aM ha
          have HA_HO154 := aM (Q_HA_HO154 (hon 3 (by kernel_rfl)))
          obtain ⟨c_, hv_⟩ := HA_HO154.out
          rw [hv_] at e20
          refine value_ (w1 := w') (v := .pointer (some (adz_v153.add (t155).toNat))) (by rfl) rfl ?_ ?_
          ·go_simp
          refine hK.out _ _ ⟨v153, adz_v153, (.pointer (some (adz_v153.add (t155).toNat))), (by rw [ha.out]; exact bZ 3 hb_ rfl rfl rfl), fun h0_ => absurd ((hon 5 (by kernel_rfl)).symm.trans h0_) (by decide), Q_HK, Q_HB, Q_HO154, Q_HA_HO154, Q_HI0_e5, fun _ => rfl⟩
         refine steps_cons ?_ ?_
         ·rintro b a w' ⟨v153, adz_v153, m6_, ha, Q_HI0, Q_HK, Q_HB, Q_HO154, Q_HA_HO154, Q_HI0_e5, Q_X6_⟩ hb_ hon hoff
          refine ⟨_, rfl, fun K hK => ?_⟩
          have e23 : a.tmps[23]? = some (m6_) := by rw [ha]; exact cA (e := (6, 23, m6_)) 3 rfl rfl (hon 6 (by kernel_rfl)) rfl
          rw [Q_X6_ (hon 6 (by kernel_rfl))] at e23
          replace ha := aM ha
          have HO154 := aM (Q_HO154 (hon 3 (by kernel_rfl)))
          have HA_HO154 := aM (Q_HA_HO154 (hon 3 (by kernel_rfl)))
          obtain ⟨c_, hv_⟩ := HA_HO154.out
          have hF_ := HO154.out
          rw [hv_] at hF_
          obtain ⟨ad_, ea_, hx_⟩ := cR (bM hF_).2.2 t155 (cC pi157) (cC qi157)
          cases ea_
          refine value_ (w1 := w') (v := .string (rdOf ByteArray.empty y152 t155)) (by rfl) rfl ?_ ?_
          ·go_simp
          refine hK.out _ _ ⟨v153, adz_v153, m6_, (by rw [ha.out]; exact bZ 4 hb_ rfl rfl rfl), fun h0_ => absurd ((hon 5 (by kernel_rfl)).symm.trans h0_) (by decide), Q_HK, Q_HB, Q_HO154, Q_HA_HO154, Q_HI0_e5, Q_X6_⟩
         refine steps_cons ?_ ?_
         ·rintro b a w' ⟨v153, adz_v153, m6_, ha, Q_HI0, Q_HK, Q_HB, Q_HO154, Q_HA_HO154, Q_HI0_e5, Q_X6_⟩ hb_ hon hoff
          refine ⟨_, rfl, fun K hK => ?_⟩
          have e19 : a.tmps[19]? = some (.string (t146.extract 0 (t150 : Int).toNat)) := by rw [ha]; exact cA (e := (2, 19, .string (t146.extract 0 (t150 : Int).toNat))) 0 rfl rfl (hon 2 (by kernel_rfl)) rfl
          have e24 : a.tmps[24]? = some (.string (rdOf ByteArray.empty y152 t155)) := by rw [ha]; exact cA (e := (7, 24, .string (rdOf ByteArray.empty y152 t155))) 4 rfl rfl (hon 7 (by kernel_rfl)) rfl
          replace ha := aM ha
          refine value_ (w1 := w') (v := .string ((t146.extract 0 (t150 : Int).toNat) ++ (rdOf ByteArray.empty y152 t155))) (by rfl) rfl ?_ ?_
          ·go_simp
           all_goals (have h8 := cC c8b0; have h12 := c12; have h15 := c15; simp only [ByteArray.size_extract] at h12 h15; omega)
          refine hK.out _ _ ⟨v153, adz_v153, m6_, (by rw [ha.out]; exact bZ 5 hb_ rfl rfl rfl), fun h0_ => absurd ((hon 5 (by kernel_rfl)).symm.trans h0_) (by decide), Q_HK, Q_HB, Q_HO154, Q_HA_HO154, Q_HI0_e5, Q_X6_⟩
         refine steps_cons ?_ ?_
         ·rintro b a w' ⟨v153, adz_v153, m6_, ha, Q_HI0, Q_HK, Q_HB, Q_HO154, Q_HA_HO154, Q_HI0_e5, Q_X6_⟩ hb_ hon hoff
          refine ⟨_, rfl, fun K hK => ?_⟩
          have e26 : a.tmps[26]? = some (.string t146) := by rw [ha]; exact (cB rfl).trans rfl
          have e27 : a.tmps[27]? = some (.int .i64 t150) := by rw [ha]; exact (cB rfl).trans rfl
          replace ha := aM ha
          refine value_ (w1 := w') (v := .string (t146.extract (t150 : Int).toNat t146.size)) (by rfl) rfl ?_ ?_
          ·go_simp
          refine hK.out _ _ ⟨v153, adz_v153, m6_, (by rw [ha.out]; exact bZ 6 hb_ rfl rfl rfl), Q_HI0, Q_HK, Q_HB, Q_HO154, Q_HA_HO154, Q_HI0_e5, Q_X6_⟩
         refine steps_cons ?_ ?_
         ·rintro b a w' ⟨v153, adz_v153, m6_, ha, Q_HI0, Q_HK, Q_HB, Q_HO154, Q_HA_HO154, Q_HI0_e5, Q_X6_⟩ hb_ hon hoff
          refine ⟨_, rfl, fun K hK => ?_⟩
          have e25 : a.tmps[25]? = some (.string ((t146.extract 0 (t150 : Int).toNat) ++ (rdOf ByteArray.empty y152 t155))) := by rw [ha]; exact cA (e := (8, 25, .string ((t146.extract 0 (t150 : Int).toNat) ++ (rdOf ByteArray.empty y152 t155)))) 5 rfl rfl (hon 8 (by kernel_rfl)) rfl
          have e28 : a.tmps[28]? = some (.string (t146.extract (t150 : Int).toNat t146.size)) := by rw [ha]; exact cA (e := (11, 28, .string (t146.extract (t150 : Int).toNat t146.size))) 6 rfl rfl (hon 11 (by kernel_rfl)) rfl
          replace ha := aM ha
          refine value_ (w1 := w') (v := .string (((t146.extract 0 (t150 : Int).toNat) ++ (rdOf ByteArray.empty y152 t155)) ++ (t146.extract (t150 : Int).toNat t146.size))) (by rfl) rfl ?_ ?_
          ·go_simp
           all_goals (have h8 := cC c8b0; have h12 := c12; have h15 := c15; simp only [ByteArray.size_extract] at h12 h15; omega)
          refine hK.out _ _ ⟨v153, adz_v153, m6_, (by rw [ha.out]; exact bZ 7 hb_ rfl rfl rfl), fun h0_ => absurd ((hon 5 (by kernel_rfl)).symm.trans h0_) (by decide), Q_HK, Q_HB, Q_HO154, Q_HA_HO154, Q_HI0_e5, Q_X6_⟩
         refine steps_cons ?_ ?_
         ·rintro b a w' ⟨v153, adz_v153, m6_, ha, Q_HI0, Q_HK, Q_HB, Q_HO154, Q_HA_HO154, Q_HI0_e5, Q_X6_⟩ hb_ hon hoff
          refine ⟨_, rfl, fun K hK => ?_⟩
          have e29 : a.tmps[29]? = some (.string (((t146.extract 0 (t150 : Int).toNat) ++ (rdOf ByteArray.empty y152 t155)) ++ (t146.extract (t150 : Int).toNat t146.size))) := by rw [ha]; exact cA (e := (12, 29, .string (((t146.extract 0 (t150 : Int).toNat) ++ (rdOf ByteArray.empty y152 t155)) ++ (t146.extract (t150 : Int).toNat t146.size)))) 7 rfl rfl (hon 12 (by kernel_rfl)) rfl
          replace ha := aM ha
          refine value_ (w1 := w') (v := .string (((t146.extract 0 (t150 : Int).toNat) ++ (rdOf ByteArray.empty y152 t155)) ++ (t146.extract (t150 : Int).toNat t146.size))) (by rfl) rfl ?_ ?_
          ·go_simp
           all_goals (have h8 := cC c8b0; have h12 := c12; have h15 := c15; simp only [ByteArray.size_extract] at h12 h15; omega)
          refine hK.out _ _ ⟨v153, adz_v153, m6_, (by rw [ha.out]; exact bZ 8 hb_ rfl rfl rfl), fun h0_ => absurd ((hon 5 (by kernel_rfl)).symm.trans h0_) (by decide), Q_HK, Q_HB, Q_HO154, Q_HA_HO154, Q_HI0_e5, Q_X6_⟩
         exact steps_nil
        rintro b a w25 hall ⟨v153, adz_v153, m6_, ha, Q_HI0, Q_HK, Q_HB, Q_HO154, Q_HA_HO154, Q_HI0_e5, Q_X6_⟩
        clear HB HI0 HK
        have hb2_ := hall 2 (by kernel_rfl)
        have hb3_ := hall 3 (by kernel_rfl)
        have hb5_ := hall 5 (by kernel_rfl)
        have hb6_ := hall 6 (by kernel_rfl)
        have hb7_ := hall 7 (by kernel_rfl)
        have hb8_ := hall 8 (by kernel_rfl)
        have hb11_ := hall 11 (by kernel_rfl)
        have hb12_ := hall 12 (by kernel_rfl)
        have hb13_ := hall 13 (by kernel_rfl)
        subst ha
        obtain rfl := Q_X6_ hb6_
        simp only [putSel, hb2_, hb3_, hb5_, hb6_, hb7_, hb8_, hb11_, hb12_, hb13_, if_true, Act.put, sA, sZ, sS]
        clear Q_HI0
        have HK := aM Q_HK
        clear Q_HK
        have HB := aM Q_HB
        clear Q_HB
        have HO154 := aM (Q_HO154 hb3_)
        clear Q_HO154
        have HA_HO154 := aM (Q_HA_HO154 hb3_)
        clear Q_HA_HO154
        have HI0 := aM (Q_HI0_e5 hb5_)
        clear Q_HI0_e5
        clear hall hb2_ hb3_ hb5_ hb6_ hb7_ hb8_ hb11_ hb12_ hb13_
        obtain ⟨co26, eo26⟩ := HA_HO154.out
        clear HA_HO154
        subst eo26
        try go_wp2
        go_ret
        exact ⟨by first | rfl | (simp [*, errW_none, errW_some] <;> rfl), HI0.out, HB.out, HK.out⟩
       ·rw [if_neg c15] at H
        exact absurd H (by simp)
      ·rw [if_neg c12] at H
       exact absurd H (by simp)
     ·rw [if_neg c11] at H
      exact absurd H (by simp)
    ·rw [if_neg c10] at H
     exact absurd H (by simp)
   ·rw [if_neg c8] at H
    exact absurd H (by simp)
  ·rw [if_neg c7] at H
   exact absurd H (by simp)
 ·rw [if_neg c5] at H
  have c5b0 : (t148 == 0) = false := beq_eq_false_iff_ne.mpr c5
  simp only [aV, aW] at H
  obtain ⟨rfl, rfl⟩ := H
  go_enter Try.func23, Try.ntmps23
  go_wp2_with (first | ((with_reducible refine aY (f := 24) rfl ?_); refine gL 7 Try.func24 #[.pointer (some ⟨g, 0, none⟩), .int .i64 4] ?_; (with_reducible refine (spec_l6Rd_pick.calls k g s0_0 s0_1 4 t144 t145 w0 _ ?side1 ?side2 A2.out).mono ?_); (case side1 => repeat ((with_reducible exact HI0.out))); (case side2 => repeat ((with_reducible exact HB.out))); rintro e w27 ⟨rfl, hi, hb, hk⟩; refine ⟨_, rfl, ?_⟩; replace HK := aM (cK HK.out hk (.inl rfl)); replace HB := aM hb; replace HI0 := aM hi; (try clear hb); (try clear hk); (try clear hi)) | ((with_reducible refine aY (f := 38) rfl ?_); refine gL 8 Try.func38 #[.pointer (some ⟨g, 0, none⟩), .int .i64 t144] ?_; (with_reducible refine (spec_l91Term.calls k g s0_0 t145 t144 t146 t147 w0 _ ?side1 ?side2 A3.out).mono ?_); (case side1 => repeat ((with_reducible exact HI0.out))); (case side2 => repeat ((with_reducible exact HB.out))); rintro e w28 ⟨rfl, hi, hb, hk⟩; refine ⟨_, rfl, ?_⟩; replace HK := aM (cK HK.out hk (.inl rfl)); replace HB := aM hb; replace HI0 := aM hi; (try clear hb); (try clear hk); (try clear hi)) | ((with_reducible refine aY (f := 24) rfl ?_); refine gL 10 Try.func24 #[.pointer (some ⟨g, 0, none⟩), .int .i64 16] ?_; (with_reducible refine (spec_l6Rd_pick.calls k g s0_0 t147 16 t148 t149 w0 _ ?side1 ?side2 A4.out).mono ?_); (case side1 => repeat ((with_reducible exact HI0.out))); (case side2 => repeat ((with_reducible exact HB.out))); rintro e w29 ⟨rfl, hi, hb, hk⟩; refine ⟨_, rfl, ?_⟩; replace HK := aM (cK HK.out hk (.inl rfl)); replace HB := aM hb; replace HI0 := aM hi; (try clear hb); (try clear hk); (try clear hi)))
  go_ret
  exact ⟨by first | rfl | (simp [*, errW_none, errW_some] <;> rfl), HI0.out, HB.out, HK.out⟩


def spec_DrawTermHas.f (k : Nat) (l0 : List Int) : Option (ByteArray × Int) := (spec_l6Open.f l0).bind fun bt158 => ((spec_l91Said.f k bt158.1 bt158.2).bind fun bt161 => ((spec_l6Rd_pick.f k bt158.1 bt161.2 30).bind fun bt163 => ((spec_l6Rd_pick.f k bt158.1 bt163.2 201).bind fun bt165 => ((some (([bt163.1, bt165.1, 200, 201, (-1)] : List Int) : List Int)).bind fun y167 => ((spec_l6Rd_pick.f k bt158.1 bt165.2 5).bind fun bt170 => (if 0 ≤ bt170.1 then (if bt170.1 < (y167.length : Int) then (some (bt161.1, rd y167 bt170.1)) else (none)) else (none)))))))
def spec_DrawTermHas.T2 : Bool × List (List Nat × List Nat) := (true, [([], []), ([0], [0]), ([], []), ([2, 1], [2]), ([], []), ([4, 3], [4]), ([3, 5], [3, 5]), ([], []), ([7, 5], [7]), ([6, 8], [6, 8]), ([9], [9]), ([1, 8, 0, 1], [1]), ([10, 11, 0, 1, 2, 3, 4, 5, 6, 7, 8, 9, 10, 11], [10])])
def spec_DrawTermHas.B2 : List Nat := [0, 1, 0, 7, 0, 31, 63, 0, 191, 511, 1023, 447, 4095]
theorem spec_DrawTermHas.tab2 : rtab .any (opsOf Try.f8 2) = spec_DrawTermHas.T2 := by kernel_rfl
theorem spec_DrawTermHas.bits2 : waitsOk spec_DrawTermHas.T2.2 spec_DrawTermHas.B2 = true := by kernel_rfl
set_option maxHeartbeats 8000000 in
set_option maxRecDepth 100000 in
theorem spec_DrawTermHas.calls (k : Nat) (A0 : Option Addr) (c0 : Nat) (l0 : List Int) (r1 : ByteArray) (r2 : Int) (w : World) (hr0 : Kd.C (Kd.int .u8) w A0 l0.length l0) (hc0 : l0.length ≤ c0) (h : spec_DrawTermHas.f k l0 = some (r1, r2)) :
  Calls Try.prog 8 #[.slice A0 l0.length c0] w fun e w' => e = .returned (.tuple #[.string r1, .int .i64 r2]) ∧ Below w.heap.size w w' := by
 have HR0 := aM hr0
 have HC0 := aM hc0
 clear hr0 hc0
 have HB := aM (cE w.heap.size w)
 have H : ((spec_l6Open.f l0).bind fun bt158 => ((spec_l91Said.f k bt158.1 bt158.2).bind fun bt161 => ((spec_l6Rd_pick.f k bt158.1 bt161.2 30).bind fun bt163 => ((spec_l6Rd_pick.f k bt158.1 bt163.2 201).bind fun bt165 => ((some (([bt163.1, bt165.1, 200, 201, (-1)] : List Int) : List Int)).bind fun y167 => ((spec_l6Rd_pick.f k bt158.1 bt165.2 5).bind fun bt170 => (if 0 ≤ bt170.1 then (if bt170.1 < (y167.length : Int) then (some (bt161.1, rd y167 bt170.1)) else (none)) else (none)))))))) = some (r1, r2) := h
 clear h
 replace H := Option.bind_eq_some_iff.mp H
 obtain ⟨⟨t158, t159⟩, A20, H⟩ := H
 replace H : ((spec_l91Said.f k t158 t159).bind fun bt161 => ((spec_l6Rd_pick.f k t158 bt161.2 30).bind fun bt163 => ((spec_l6Rd_pick.f k t158 bt163.2 201).bind fun bt165 => ((some (([bt163.1, bt165.1, 200, 201, (-1)] : List Int) : List Int)).bind fun y167 => ((spec_l6Rd_pick.f k t158 bt165.2 5).bind fun bt170 => (if 0 ≤ bt170.1 then (if bt170.1 < (y167.length : Int) then (some (bt161.1, rd y167 bt170.1)) else (none)) else (none))))))) = some (r1, r2) := H
 have A2 := aM A20
 clear A20
 replace H := Option.bind_eq_some_iff.mp H
 obtain ⟨⟨t161, t162⟩, A30, H⟩ := H
 replace H : ((spec_l6Rd_pick.f k t158 t162 30).bind fun bt163 => ((spec_l6Rd_pick.f k t158 bt163.2 201).bind fun bt165 => ((some (([bt163.1, bt165.1, 200, 201, (-1)] : List Int) : List Int)).bind fun y167 => ((spec_l6Rd_pick.f k t158 bt165.2 5).bind fun bt170 => (if 0 ≤ bt170.1 then (if bt170.1 < (y167.length : Int) then (some (t161, rd y167 bt170.1)) else (none)) else (none)))))) = some (r1, r2) := H
 have A3 := aM A30
 clear A30
 replace H := Option.bind_eq_some_iff.mp H
 obtain ⟨⟨t163, t164⟩, A40, H⟩ := H
 replace H : ((spec_l6Rd_pick.f k t158 t164 201).bind fun bt165 => ((some (([t163, bt165.1, 200, 201, (-1)] : List Int) : List Int)).bind fun y167 => ((spec_l6Rd_pick.f k t158 bt165.2 5).bind fun bt170 => (if 0 ≤ bt170.1 then (if bt170.1 < (y167.length : Int) then (some (t161, rd y167 bt170.1)) else (none)) else (none))))) = some (r1, r2) := H
 have A4 := aM A40
 clear A40
 replace H := Option.bind_eq_some_iff.mp H
 obtain ⟨⟨t165, t166⟩, A50, H⟩ := H
 replace H : ((some (([t163, t165, 200, 201, (-1)] : List Int) : List Int)).bind fun y167 => ((spec_l6Rd_pick.f k t158 t166 5).bind fun bt170 => (if 0 ≤ bt170.1 then (if bt170.1 < (y167.length : Int) then (some (t161, rd y167 bt170.1)) else (none)) else (none)))) = some (r1, r2) := H
 have A5 := aM A50
 clear A50
 obtain ⟨y167, hy167⟩ : ∃ y_ : List Int, y_ = (([t163, t165, 200, 201, (-1)] : List Int)) := ⟨_, rfl⟩
 replace H : ((spec_l6Rd_pick.f k t158 t166 5).bind fun bt170 => (if 0 ≤ bt170.1 then (if bt170.1 < (y167.length : Int) then (some (t161, rd y167 bt170.1)) else (none)) else (none))) = some (r1, r2) := by first | (rw [hy167]; with_reducible exact H) | (have H2_ := (bR _ _).symm.trans H; rw [hy167]; with_reducible exact H2_) | (have H2_ := (bR _ _).symm.trans H; with_reducible exact H2_) | with_reducible exact H | (rw [hy167]; exact H) | exact H
 have Ny167 := aM hy167
 clear hy167
 replace H := Option.bind_eq_some_iff.mp H
 obtain ⟨⟨t170, t171⟩, A60, H⟩ := H
 replace H : (if 0 ≤ t170 then (if t170 < (y167.length : Int) then (some (t161, rd y167 t170)) else (none)) else (none)) = some (r1, r2) := H
 have A6 := aM A60
 clear A60
 by_cases c7 : 0 ≤ t170
 ·rw [if_pos c7] at H
  have c7b0 : decide (0 ≤ t170) = true := aH c7
  clear c7
  by_cases c8 : t170 < (y167.length : Int)
  ·rw [if_pos c8] at H
   have c8b0 : decide (t170 < (y167.length : Int)) = true := aH c8
   clear c8
   simp only [aV, aW] at H
   obtain ⟨rfl, rfl⟩ := H
   go_enter Try.func8, Try.ntmps8
   try go_wp2_with (first | ((with_reducible refine aY (f := 22) rfl ?_); refine gL 6 Try.func22 #[.slice A0 l0.length c0] (hargs := (by (try simp only [aN, aQ, aT]); first | done | rfl | (simp only [List.length_drop, List.length_take]; rfl))) ?_; (with_reducible refine (spec_l6Open.calls _ _ l0 t158 t159 w _ ?side1 ?side2 ?side3 A2.out).mono ?_); (case side1 => repeat (first | (with_reducible first | exact HB.out | apply bA | apply bN | apply b1) | exact HB.out)); (case side2 => exact HR0.out); (case side3 => exact HC0.out); rintro e w9 ⟨g160, rfl, hi, hb, hb2⟩; refine ⟨_, rfl, ?_⟩; have n0_ := aM (hb); have n1_ := aM (hi); clear HB; have HB := n0_; have HI160 := n1_; clear n0_ n1_; (try clear hb); (try clear hb2); (try clear hk); (try clear hi)))
   have pi172 : (0 ≤ (t170 : Int)) = True := eq_true (aJ (by first | (with_reducible assumption) | assumption))
   have qi172 : (t170 < (y167.length : Int)) = True := eq_true (aJ (by first | (with_reducible assumption) | assumption))
   have n0_ := aM (IsS63.drew HI160.out)
   have n1_ := aM (b1 HB.out)
   clear HI160
   clear HB
   have HI160 := n0_
   have HB := n1_
   clear n0_ n1_
   refine start_ (n := 13) (S := fun w' => True) (ds := []) #[false, false, false, false, false, false, false, false, false, false, false, false, false] (by kernel_rfl) rfl rfl trivial (fun hHeld => ?_); refine with_tabW spec_DrawTermHas.tab2 spec_DrawTermHas.bits2 (fun HT_ HW_ => ?_)
   generalize w9.drew = w10 at HI160 HB hHeld ⊢
   refine pQ 0 7 HT_ ?_
   refine pQ 2 9 HT_ ?_
   refine pQ 4 11 HT_ ?_
   refine pQ 7 14 HT_ ?_
   refine inv_at [1, 3, 5, 6, 8, 9, 10, 11, 12] (fun a0_ b a w' => ∃ (v168 : Value) (adz_v168 : Addr) (m9_ : Value), a = putSel a0_ b [(1, 8, .string t161), (3, 10, .int .i64 t163), (5, 12, .int .i64 t165), (6, 13, v168), (8, 15, .int .i64 t170), (9, 16, m9_), (10, 17, .int .i64 (rd y167 t170)), (11, 2, .string t161), (12, 3, .int .i64 (rd y167 t170))] ∧ (b 1 = false → IsS63 w w' g160 t158 t159) ∧ (Below w.heap.size w w') ∧ (b 1 = true → b 3 = false → IsS63 w w' g160 t158 t162) ∧ (b 3 = true → b 5 = false → IsS63 w w' g160 t158 t164) ∧ (b 5 = true → b 8 = false → IsS63 w w' g160 t158 t166) ∧ (b 6 = true → Kd.R (Kd.int .i64) 3 w' w.heap.size (fun _ => True) v168 y167) ∧ (b 6 = true → ∃ c_, (v168 : Value) = .slice (some adz_v168) y167.length c_) ∧ (b 8 = true → IsS63 w w' g160 t158 t171) ∧ (b 9 = true → (m9_ : Value) = .pointer (some (adz_v168.add (t170).toNat)))) HT_.out HW_.out (by kernel_rfl) (by kernel_rfl) ?_ ?_ ?_
   ·exact ⟨.bool false, ⟨0, 0, none⟩, .bool false, by simp only [putSel, bX, if_false], fun _ => HI160.out, HB.out, fun h_ => absurd h_ (by decide), fun h_ => absurd h_ (by decide), fun h_ => absurd h_ (by decide), fun h_ => absurd h_ (by decide), fun h_ => absurd h_ (by decide), fun h_ => absurd h_ (by decide), fun h_ => absurd h_ (by decide)⟩
   ·skip
    clear HB HI160
    refine steps_cons ?_ ?_
    ·rintro b a w' ⟨v168, adz_v168, m9_, ha, Q_HI160, Q_HB, Q_HI160_e1, Q_HI160_e3, Q_HI160_e5, Q_HO169, Q_HA_HO169, Q_HI160_e8, Q_X9_⟩ hb_ hon hoff
     refine ⟨_, rfl, fun K hK => ?_⟩
     have e7 : a.tmps[7]? = some (.pointer (some ⟨g160, 0, none⟩)) := by rw [ha]; exact (cB rfl).trans rfl
     replace ha := aM ha
     have HI160 := aM (Q_HI160 hb_)
     have HB := aM Q_HB
     refine gO Try.func23 #[.pointer (some ⟨g160, 0, none⟩)] (hargs := (by first | (simp only [aN, aQ, aT, Act.eval, Array.getD_eq_getD_getElem?, Option.getD_some, e7]; done) | (simp only [aN, aQ, aT, Act.eval, Array.getD_eq_getD_getElem?, Option.getD_some, e7]; rfl))) ?_
     with_reducible refine (spec_l91Said.calls k g160 t158 t159 t161 t162 w _ ?side1 ?side2 A3.out).mono ?_
     (case side1 => repeat (first | (with_reducible first | exact HI160.out | apply IsS63.alloc | apply IsS63.drewN | apply IsS63.drew | apply IsS63.set_1) | exact HI160.out))
     (case side2 => repeat (first | (with_reducible first | exact HB.out | apply bA | apply bN | apply b1 | refine bS ?_ (IsS63.ge HI160.out)) | exact HB.out))
     rintro e w11 ⟨rfl, hi, hb, hk⟩
     refine ⟨_, rfl, ?_⟩
     have n0_ := aM (hb)
     have n1_ := aM (hi)
     clear HB
     clear HI160
     have HB := n0_
     have HI160 := n1_
     clear n0_ n1_
     (try clear hb)
     (try clear hb2)
     (try clear hk)
     (try clear hi)
     refine hK.out _ _ ⟨v168, adz_v168, m9_, (by rw [ha.out]; exact bZ 0 hb_ rfl rfl rfl), fun h0_ => absurd ((up_self b 1).symm.trans h0_) (by decide), (by repeat (first | (with_reducible first | exact HB.out | apply bA | apply bN | apply b1 | refine bS ?_ (IsS63.ge HI160.out)) | exact HB.out)), fun _ _ => (by repeat (first | (with_reducible first | exact HI160.out | apply IsS63.alloc | apply IsS63.drewN | apply IsS63.drew | apply IsS63.set_1) | exact HI160.out)), fun h0_ _ => absurd ((hoff 3 (by kernel_rfl)).symm.trans h0_) (by decide), fun h0_ _ => absurd ((hoff 5 (by kernel_rfl)).symm.trans h0_) (by decide), fun h0_ => absurd ((hoff 6 (by kernel_rfl)).symm.trans h0_) (by decide), fun h0_ => absurd ((hoff 6 (by kernel_rfl)).symm.trans h0_) (by decide), fun h0_ => absurd ((hoff 8 (by kernel_rfl)).symm.trans h0_) (by decide), fun h0_ => absurd ((hoff 9 (by kernel_rfl)).symm.trans h0_) (by decide)⟩
    refine steps_cons ?_ ?_
    ·rintro b a w' ⟨v168, adz_v168, m9_, ha, Q_HI160, Q_HB, Q_HI160_e1, Q_HI160_e3, Q_HI160_e5, Q_HO169, Q_HA_HO169, Q_HI160_e8, Q_X9_⟩ hb_ hon hoff
     refine ⟨_, rfl, fun K hK => ?_⟩
     have e9 : a.tmps[9]? = some (.pointer (some ⟨g160, 0, none⟩)) := by rw [ha]; exact (cB rfl).trans rfl
     replace ha := aM ha
     have HB := aM Q_HB
     have HI160 := aM (Q_HI160_e1 (hon 1 (by kernel_rfl)) hb_)
     refine gO Try.func24 #[.pointer (some ⟨g160, 0, none⟩), .int .i64 30] (hargs := (by first | (simp only [aN, aQ, aT, Act.eval, Array.getD_eq_getD_getElem?, Option.getD_some, e9]; done) | (simp only [aN, aQ, aT, Act.eval, Array.getD_eq_getD_getElem?, Option.getD_some, e9]; rfl))) ?_
     with_reducible refine (spec_l6Rd_pick.calls k g160 t158 t162 30 t163 t164 w _ ?side1 ?side2 A4.out).mono ?_
     (case side1 => repeat (first | (with_reducible first | exact HI160.out | apply IsS63.alloc | apply IsS63.drewN | apply IsS63.drew | apply IsS63.set_1) | exact HI160.out))
     (case side2 => repeat (first | (with_reducible first | exact HB.out | apply bA | apply bN | apply b1 | refine bS ?_ (IsS63.ge HI160.out)) | exact HB.out))
     rintro e w13 ⟨rfl, hi, hb, hk⟩
     refine ⟨_, rfl, ?_⟩
     have n0_ := aM (hb)
     have n1_ := aM (hi)
     clear HB
     clear HI160
     have HB := n0_
     have HI160 := n1_
     clear n0_ n1_
     (try clear hb)
     (try clear hb2)
     (try clear hk)
     (try clear hi)
     refine hK.out _ _ ⟨v168, adz_v168, m9_, (by rw [ha.out]; exact bZ 1 hb_ rfl rfl rfl), fun h0_ => absurd ((hon 1 (by kernel_rfl)).symm.trans h0_) (by decide), (by repeat (first | (with_reducible first | exact HB.out | apply bA | apply bN | apply b1 | refine bS ?_ (IsS63.ge HI160.out)) | exact HB.out)), fun _ h1_ => absurd ((up_self b 3).symm.trans h1_) (by decide), fun _ _ => (by repeat (first | (with_reducible first | exact HI160.out | apply IsS63.alloc | apply IsS63.drewN | apply IsS63.drew | apply IsS63.set_1) | exact HI160.out)), fun h0_ _ => absurd ((hoff 5 (by kernel_rfl)).symm.trans h0_) (by decide), fun h0_ => absurd ((hoff 6 (by kernel_rfl)).symm.trans h0_) (by decide), fun h0_ => absurd ((hoff 6 (by kernel_rfl)).symm.trans h0_) (by decide), fun h0_ => absurd ((hoff 8 (by kernel_rfl)).symm.trans h0_) (by decide), fun h0_ => absurd ((hoff 9 (by kernel_rfl)).symm.trans h0_) (by decide)⟩
    refine steps_cons ?_ ?_
    ·rintro b a w' ⟨v168, adz_v168, m9_, ha, Q_HI160, Q_HB, Q_HI160_e1, Q_HI160_e3, Q_HI160_e5, Q_HO169, Q_HA_HO169, Q_HI160_e8, Q_X9_⟩ hb_ hon hoff
     refine ⟨_, rfl, fun K hK => ?_⟩
     have e11 : a.tmps[11]? = some (.pointer (some ⟨g160, 0, none⟩)) := by rw [ha]; exact (cB rfl).trans rfl
     replace ha := aM ha
     have HB := aM Q_HB
     have HI160 := aM (Q_HI160_e3 (hon 3 (by kernel_rfl)) hb_)
     refine gO Try.func24 #[.pointer (some ⟨g160, 0, none⟩), .int .i64 201] (hargs := (by first | (simp only [aN, aQ, aT, Act.eval, Array.getD_eq_getD_getElem?, Option.getD_some, e11]; done) | (simp only [aN, aQ, aT, Act.eval, Array.getD_eq_getD_getElem?, Option.getD_some, e11]; rfl))) ?_
     with_reducible refine (spec_l6Rd_pick.calls k g160 t158 t164 201 t165 t166 w _ ?side1 ?side2 A5.out).mono ?_
     (case side1 => repeat (first | (with_reducible first | exact HI160.out | apply IsS63.alloc | apply IsS63.drewN | apply IsS63.drew | apply IsS63.set_1) | exact HI160.out))
     (case side2 => repeat (first | (with_reducible first | exact HB.out | apply bA | apply bN | apply b1 | refine bS ?_ (IsS63.ge HI160.out)) | exact HB.out))
     rintro e w14 ⟨rfl, hi, hb, hk⟩
     refine ⟨_, rfl, ?_⟩
     have n0_ := aM (hb)
     have n1_ := aM (hi)
     clear HB
     clear HI160
     have HB := n0_
     have HI160 := n1_
     clear n0_ n1_
     (try clear hb)
     (try clear hb2)
     (try clear hk)
     (try clear hi)
     refine hK.out _ _ ⟨v168, adz_v168, m9_, (by rw [ha.out]; exact bZ 2 hb_ rfl rfl rfl), fun h0_ => absurd ((hon 1 (by kernel_rfl)).symm.trans h0_) (by decide), (by repeat (first | (with_reducible first | exact HB.out | apply bA | apply bN | apply b1 | refine bS ?_ (IsS63.ge HI160.out)) | exact HB.out)), fun _ h1_ => absurd ((hon 3 (by kernel_rfl)).symm.trans h1_) (by decide), fun _ h1_ => absurd ((up_self b 5).symm.trans h1_) (by decide), fun _ _ => (by repeat (first | (with_reducible first | exact HI160.out | apply IsS63.alloc | apply IsS63.drewN | apply IsS63.drew | apply IsS63.set_1) | exact HI160.out)), fun h0_ => absurd ((hoff 6 (by kernel_rfl)).symm.trans h0_) (by decide), fun h0_ => absurd ((hoff 6 (by kernel_rfl)).symm.trans h0_) (by decide), fun h0_ => absurd ((hoff 8 (by kernel_rfl)).symm.trans h0_) (by decide), fun h0_ => absurd ((hoff 9 (by kernel_rfl)).symm.trans h0_) (by decide)⟩
    refine steps_cons ?_ ?_
    ·rintro b a w' ⟨v168, adz_v168, m9_, ha, Q_HI160, Q_HB, Q_HI160_e1, Q_HI160_e3, Q_HI160_e5, Q_HO169, Q_HA_HO169, Q_HI160_e8, Q_X9_⟩ hb_ hon hoff
     refine ⟨_, rfl, fun K hK => ?_⟩
     have e10 : a.tmps[10]? = some (.int .i64 t163) := by rw [ha]; exact cA (e := (3, 10, .int .i64 t163)) 1 rfl rfl (hon 3 (by kernel_rfl)) rfl
     have e12 : a.tmps[12]? = some (.int .i64 t165) := by rw [ha]; exact cA (e := (5, 12, .int .i64 t165)) 2 rfl rfl (hon 5 (by kernel_rfl)) rfl
     replace ha := aM ha
     have HB := aM Q_HB
     refine Kd.R_lit_step (Kd.int .i64) _ 3 ?hg (N := 13) ?hd (xs := ([t163, t165, 200, 201, (-1)] : List Int)) (inner := [.int .i64 t163, .int .i64 t165, .int .i64 200, .int .i64 201, .int .i64 (-1)]) (ok := fun _ => True) (okp := fun _ => True) ?hr ?hp (fun _ hk => hk) trivial (cE _ _) (cD _) (by simp) ?_; (case hd => rfl); (case hg => rfl); (case hr => first | (go_simp; done) | (go_simp; rfl)); (case hp => exact (Reps.one (show Kd.M (Kd.int .i64) _ _ _ t163 [.int .i64 t163] from rfl) (Reps.one (show Kd.M (Kd.int .i64) _ _ _ t165 [.int .i64 t165] from rfl) (Reps.one (show Kd.M (Kd.int .i64) _ _ _ 200 [.int .i64 200] from rfl) (Reps.one (show Kd.M (Kd.int .i64) _ _ _ 201 [.int .i64 201] from rfl) (Reps.one (show Kd.M (Kd.int .i64) _ _ _ (-1) [.int .i64 (-1)] from rfl) (Reps.none _ _)))))))
     intro v168 w15 ho16 hb hg_ hnew_
     clear hg_ hnew_
     (first | rw [← Ny167.out] at ho16 | (simp only [Int.reduceToNat] at ho16; rw [← Ny167.out] at ho16))
     have n0_ := aM (bP ho16 (aG (by repeat (first | (with_reducible first | exact HB.out | apply bA | apply bN | apply b1) | exact HB.out))))
     have n2_ := aM (aE (by repeat (first | (with_reducible first | exact HB.out | apply bA | apply bN | apply b1) | exact HB.out)) hb)
     have z_HI160_e5 := fun (h0_ : b 5 = true) (h1_ : b 8 = false) => (show IsS63 w w15 g160 t158 t166 from by first | exact (IsS63.below (by repeat (first | (with_reducible first | exact (Q_HI160_e5 h0_ h1_) | apply IsS63.alloc | apply IsS63.drewN | apply IsS63.drew | apply IsS63.set_1) | exact (Q_HI160_e5 h0_ h1_))) hb))
     have z_HI160_e8 := fun (h0_ : b 8 = true) => (show IsS63 w w15 g160 t158 t171 from by first | exact (IsS63.below (by repeat (first | (with_reducible first | exact (Q_HI160_e8 h0_) | apply IsS63.alloc | apply IsS63.drewN | apply IsS63.drew | apply IsS63.set_1) | exact (Q_HI160_e8 h0_))) hb))
     clear HB
     have HO169 := n0_
     have HB := n2_
     clear n0_ n2_
     clear hb ho16
     obtain ⟨Ao17, co17, eo17⟩ := bL HO169.out
     subst eo17
     obtain ⟨ado17, fo17, _⟩ := Kd.at_int (bM HO169.out).2.2 0 (by decide) (by rw [Ny167.out]; simp)
     cases fo17
     refine hK.out _ _ ⟨.slice (some ado17) y167.length co17, ado17, m9_, (by rw [ha.out]; exact bZ 3 hb_ rfl rfl rfl), fun h0_ => absurd ((hon 1 (by kernel_rfl)).symm.trans h0_) (by decide), (by repeat (first | (with_reducible first | exact HB.out | apply bA | apply bN | apply b1) | exact HB.out)), fun _ h1_ => absurd ((hon 3 (by kernel_rfl)).symm.trans h1_) (by decide), fun _ h1_ => absurd ((hon 5 (by kernel_rfl)).symm.trans h1_) (by decide), z_HI160_e5, fun _ => (by (with_reducible repeat (first | apply rA | apply rN | apply rD)); exact HO169.out), fun _ => ⟨_, rfl⟩, z_HI160_e8, fun h0_ => absurd ((hoff 9 (by kernel_rfl)).symm.trans h0_) (by decide)⟩
    refine steps_cons ?_ ?_
    ·rintro b a w' ⟨v168, adz_v168, m9_, ha, Q_HI160, Q_HB, Q_HI160_e1, Q_HI160_e3, Q_HI160_e5, Q_HO169, Q_HA_HO169, Q_HI160_e8, Q_X9_⟩ hb_ hon hoff
     refine ⟨_, rfl, fun K hK => ?_⟩
     have e14 : a.tmps[14]? = some (.pointer (some ⟨g160, 0, none⟩)) := by rw [ha]; exact (cB rfl).trans rfl
     replace ha := aM ha
     have HB := aM Q_HB
     have HI160 := aM (Q_HI160_e5 (hon 5 (by kernel_rfl)) hb_)
     refine gO Try.func24 #[.pointer (some ⟨g160, 0, none⟩), .int .i64 5] (hargs := (by first | (simp only [aN, aQ, aT, Act.eval, Array.getD_eq_getD_getElem?, Option.getD_some, e14]; done) | (simp only [aN, aQ, aT, Act.eval, Array.getD_eq_getD_getElem?, Option.getD_some, e14]; rfl))) ?_
     with_reducible refine (spec_l6Rd_pick.calls k g160 t158 t166 5 t170 t171 w _ ?side1 ?side2 A6.out).mono ?_
     (case side1 => repeat (first | (with_reducible first | exact HI160.out | apply IsS63.alloc | apply IsS63.drewN | apply IsS63.drew | apply IsS63.set_1) | exact HI160.out))
     (case side2 => repeat (first | (with_reducible first | exact HB.out | apply bA | apply bN | apply b1 | refine bS ?_ (IsS63.ge HI160.out)) | exact HB.out))
     rintro e w15 ⟨rfl, hi, hb, hk⟩
     refine ⟨_, rfl, ?_⟩
     have n0_ := aM (hb)
     have n1_ := aM (hi)
     have z_HO169 := fun (h0_ : b 6 = true) => (show Kd.R (Kd.int .i64) 3 w15 w.heap.size (fun _ => True) v168 y167 from by first | exact (bJ (cH (IsS63.apart (show IsS63 w _ g160 t158 t166 from by repeat (first | (with_reducible first | exact HI160.out | apply IsS63.alloc | apply IsS63.drewN | apply IsS63.drew | apply IsS63.set_1) | exact HI160.out)) (by (with_reducible repeat (first | apply rA | apply rN | apply rD)); exact (Q_HO169 h0_)) (by decide)) hk (fun _ h => h.2)) (fun _ h => h.1)) | exact bJ (bJ (cH (IsS63.apart (show IsS63 w _ g160 t158 t166 from by repeat (first | (with_reducible first | exact HI160.out | apply IsS63.alloc | apply IsS63.drewN | apply IsS63.drew | apply IsS63.set_1) | exact HI160.out)) (by (with_reducible repeat (first | apply rA | apply rN | apply rD)); exact (Q_HO169 h0_)) (by decide)) hk (fun _ h => h.2)) (fun _ h => h.1)) (fun _ h_ => by first | trivial | exact h_ | exact h_.1))
     clear HB
     clear HI160
     have HB := n0_
     have HI160 := n1_
     clear n0_ n1_
     (try clear hb)
     (try clear hb2)
     (try clear hk)
     (try clear hi)
     refine hK.out _ _ ⟨v168, adz_v168, m9_, (by rw [ha.out]; exact bZ 4 hb_ rfl rfl rfl), fun h0_ => absurd ((hon 1 (by kernel_rfl)).symm.trans h0_) (by decide), (by repeat (first | (with_reducible first | exact HB.out | apply bA | apply bN | apply b1 | refine bS ?_ (IsS63.ge HI160.out)) | exact HB.out)), fun _ h1_ => absurd ((hon 3 (by kernel_rfl)).symm.trans h1_) (by decide), fun _ h1_ => absurd ((hon 5 (by kernel_rfl)).symm.trans h1_) (by decide), fun _ h1_ => absurd ((up_self b 8).symm.trans h1_) (by decide), z_HO169, Q_HA_HO169, fun _ => (by repeat (first | (with_reducible first | exact HI160.out | apply IsS63.alloc | apply IsS63.drewN | apply IsS63.drew | apply IsS63.set_1) | exact HI160.out)), fun h0_ => absurd ((hoff 9 (by kernel_rfl)).symm.trans h0_) (by decide)⟩
    refine steps_cons ?_ ?_
    ·rintro b a w' ⟨v168, adz_v168, m9_, ha, Q_HI160, Q_HB, Q_HI160_e1, Q_HI160_e3, Q_HI160_e5, Q_HO169, Q_HA_HO169, Q_HI160_e8, Q_X9_⟩ hb_ hon hoff
     refine ⟨_, rfl, fun K hK => ?_⟩
     have e13 : a.tmps[13]? = some (v168) := by rw [ha]; exact cA (e := (6, 13, v168)) 3 rfl rfl (hon 6 (by kernel_rfl)) rfl
     have e15 : a.tmps[15]? = some (.int .i64 t170) := by rw [ha]; exact cA (e := (8, 15, .int .i64 t170)) 4 rfl rfl (hon 8 (by kernel_rfl)) rfl
     replace ha := aM ha
     have HB := aM Q_HB
     have HO169 := aM (Q_HO169 (hon 6 (by kernel_rfl)))
     have HA_HO169 := aM (Q_HA_HO169 (hon 6 (by kernel_rfl)))
     have HI160 := aM (Q_HI160_e8 (hon 8 (by kernel_rfl)))
     obtain ⟨c_, hv_⟩ := HA_HO169.out
     rw [hv_] at e13
     refine value_ (w1 := w') (v := .pointer (some (adz_v168.add (t170).toNat))) (by rfl) rfl ?_ ?_
     ·go_simp
      (try simp only [cS])
      try rfl
     refine hK.out _ _ ⟨v168, adz_v168, (.pointer (some (adz_v168.add (t170).toNat))), (by rw [ha.out]; exact bZ 5 hb_ rfl rfl rfl), fun h0_ => absurd ((hon 1 (by kernel_rfl)).symm.trans h0_) (by decide), Q_HB, fun _ h1_ => absurd ((hon 3 (by kernel_rfl)).symm.trans h1_) (by decide), fun _ h1_ => absurd ((hon 5 (by kernel_rfl)).symm.trans h1_) (by decide), fun _ h1_ => absurd ((hon 8 (by kernel_rfl)).symm.trans h1_) (by decide), Q_HO169, Q_HA_HO169, Q_HI160_e8, fun _ => rfl⟩
    refine steps_cons ?_ ?_
    ·rintro b a w' ⟨v168, adz_v168, m9_, ha, Q_HI160, Q_HB, Q_HI160_e1, Q_HI160_e3, Q_HI160_e5, Q_HO169, Q_HA_HO169, Q_HI160_e8, Q_X9_⟩ hb_ hon hoff
     refine ⟨_, rfl, fun K hK => ?_⟩
     have e16 : a.tmps[16]? = some (m9_) := by rw [ha]; exact cA (e := (9, 16, m9_)) 5 rfl rfl (hon 9 (by kernel_rfl)) rfl
     rw [Q_X9_ (hon 9 (by kernel_rfl))] at e16
     replace ha := aM ha
     have HB := aM Q_HB
     have HO169 := aM (Q_HO169 (hon 6 (by kernel_rfl)))
     have HA_HO169 := aM (Q_HA_HO169 (hon 6 (by kernel_rfl)))
     have HI160 := aM (Q_HI160_e8 (hon 8 (by kernel_rfl)))
     obtain ⟨c_, hv_⟩ := HA_HO169.out
     have hF_ := HO169.out
     rw [hv_] at hF_
     obtain ⟨ad_, ea_, hx_⟩ := Kd.at_int (bM hF_).2.2 t170 (cC pi172) (cC qi172)
     cases ea_
     refine value_ (w1 := w') (v := .int .i64 (rd y167 t170)) (by rfl) rfl ?_ ?_
     ·go_simp
      (try simp only [cS])
      try rfl
     refine hK.out _ _ ⟨v168, adz_v168, m9_, (by rw [ha.out]; exact bZ 6 hb_ rfl rfl rfl), fun h0_ => absurd ((hon 1 (by kernel_rfl)).symm.trans h0_) (by decide), Q_HB, fun _ h1_ => absurd ((hon 3 (by kernel_rfl)).symm.trans h1_) (by decide), fun _ h1_ => absurd ((hon 5 (by kernel_rfl)).symm.trans h1_) (by decide), fun _ h1_ => absurd ((hon 8 (by kernel_rfl)).symm.trans h1_) (by decide), Q_HO169, Q_HA_HO169, Q_HI160_e8, Q_X9_⟩
    refine steps_cons ?_ ?_
    ·rintro b a w' ⟨v168, adz_v168, m9_, ha, Q_HI160, Q_HB, Q_HI160_e1, Q_HI160_e3, Q_HI160_e5, Q_HO169, Q_HA_HO169, Q_HI160_e8, Q_X9_⟩ hb_ hon hoff
     refine ⟨_, rfl, fun K hK => ?_⟩
     have e8 : a.tmps[8]? = some (.string t161) := by rw [ha]; exact cA (e := (1, 8, .string t161)) 0 rfl rfl (hon 1 (by kernel_rfl)) rfl
     replace ha := aM ha
     have HB := aM Q_HB
     have HI160 := aM (Q_HI160_e8 (hon 8 (by kernel_rfl)))
     refine value_ (w1 := w') (v := .string t161) (by rfl) rfl ?_ ?_
     ·go_simp
      (try simp only [cS])
      try rfl
     refine hK.out _ _ ⟨v168, adz_v168, m9_, (by rw [ha.out]; exact bZ 7 hb_ rfl rfl rfl), fun h0_ => absurd ((hon 1 (by kernel_rfl)).symm.trans h0_) (by decide), Q_HB, fun _ h1_ => absurd ((hon 3 (by kernel_rfl)).symm.trans h1_) (by decide), fun _ h1_ => absurd ((hon 5 (by kernel_rfl)).symm.trans h1_) (by decide), fun _ h1_ => absurd ((hon 8 (by kernel_rfl)).symm.trans h1_) (by decide), Q_HO169, Q_HA_HO169, Q_HI160_e8, Q_X9_⟩
    refine steps_cons ?_ ?_
    ·rintro b a w' ⟨v168, adz_v168, m9_, ha, Q_HI160, Q_HB, Q_HI160_e1, Q_HI160_e3, Q_HI160_e5, Q_HO169, Q_HA_HO169, Q_HI160_e8, Q_X9_⟩ hb_ hon hoff
     refine ⟨_, rfl, fun K hK => ?_⟩
     have e17 : a.tmps[17]? = some (.int .i64 (rd y167 t170)) := by rw [ha]; exact cA (e := (10, 17, .int .i64 (rd y167 t170))) 6 rfl rfl (hon 10 (by kernel_rfl)) rfl
     replace ha := aM ha
     have HB := aM Q_HB
     have HO169 := aM (Q_HO169 (hon 6 (by kernel_rfl)))
     have HA_HO169 := aM (Q_HA_HO169 (hon 6 (by kernel_rfl)))
     have HI160 := aM (Q_HI160_e8 (hon 8 (by kernel_rfl)))
     refine value_ (w1 := w') (v := .int .i64 (rd y167 t170)) (by rfl) rfl ?_ ?_
     ·go_simp
      (try simp only [cS])
      try rfl
     refine hK.out _ _ ⟨v168, adz_v168, m9_, (by rw [ha.out]; exact bZ 8 hb_ rfl rfl rfl), fun h0_ => absurd ((hon 1 (by kernel_rfl)).symm.trans h0_) (by decide), Q_HB, fun _ h1_ => absurd ((hon 3 (by kernel_rfl)).symm.trans h1_) (by decide), fun _ h1_ => absurd ((hon 5 (by kernel_rfl)).symm.trans h1_) (by decide), fun _ h1_ => absurd ((hon 8 (by kernel_rfl)).symm.trans h1_) (by decide), Q_HO169, Q_HA_HO169, Q_HI160_e8, Q_X9_⟩
    exact steps_nil
   rintro b a w18 hall ⟨v168, adz_v168, m9_, ha, Q_HI160, Q_HB, Q_HI160_e1, Q_HI160_e3, Q_HI160_e5, Q_HO169, Q_HA_HO169, Q_HI160_e8, Q_X9_⟩
   clear HB HI160
   have hb1_ := hall 1 (by kernel_rfl)
   have hb3_ := hall 3 (by kernel_rfl)
   have hb5_ := hall 5 (by kernel_rfl)
   have hb6_ := hall 6 (by kernel_rfl)
   have hb8_ := hall 8 (by kernel_rfl)
   have hb9_ := hall 9 (by kernel_rfl)
   have hb10_ := hall 10 (by kernel_rfl)
   have hb11_ := hall 11 (by kernel_rfl)
   have hb12_ := hall 12 (by kernel_rfl)
   subst ha
   obtain rfl := Q_X9_ hb9_
   simp only [putSel, hb1_, hb3_, hb5_, hb6_, hb8_, hb9_, hb10_, hb11_, hb12_, if_true, Act.put, sA, sZ, sS]
   clear Q_HI160
   have HB := aM Q_HB
   clear Q_HB
   clear Q_HI160_e1
   clear Q_HI160_e3
   clear Q_HI160_e5
   have HO169 := aM (Q_HO169 hb6_)
   clear Q_HO169
   have HA_HO169 := aM (Q_HA_HO169 hb6_)
   clear Q_HA_HO169
   have HI160 := aM (Q_HI160_e8 hb8_)
   clear Q_HI160_e8
   clear hall hb1_ hb3_ hb5_ hb6_ hb8_ hb9_ hb10_ hb11_ hb12_
   obtain ⟨co19, eo19⟩ := HA_HO169.out
   clear HA_HO169
   subst eo19
   try go_wp2
   go_ret2
   exact ⟨by first | rfl | (simp [errW_none, errW_some] <;> rfl) | (simp [errW_none, errW_some]; exact ⟨rfl, rfl⟩) | (simp [errW_none, errW_some]; exact ⟨rfl, rfl, rfl⟩) | (simp [*, errW_none, errW_some] <;> rfl), by repeat (first | (with_reducible first | exact HB.out | apply bA | apply bN | apply b1 | refine bS ?_ (IsS63.ge HI160.out)) | exact HB.out)⟩
  ·rw [if_neg c8] at H
   exact absurd H (by simp)
 ·rw [if_neg c7] at H
  exact absurd H (by simp)


def impl_in.f (a0 : Int) (a1 : Int) (a2 : Int) : Option (Bool) := if a0 ≥ a1 then (some (decide (a0 ≤ a2))) else (some false)
set_option maxHeartbeats 8000000 in
set_option maxRecDepth 100000 in
theorem impl_in.calls (a0 : Int) (a1 : Int) (a2 : Int) (r : Bool) (w : World) (h : impl_in.f a0 a1 a2 = some r) :
  Calls Try.prog 26 #[.int .i64 a0, .int .i64 a1, .int .i64 a2] w fun e w' => e = .returned (.bool r) ∧ Drawn0 w w' := by
 have H : (if a0 ≥ a1 then (some (decide (a0 ≤ a2))) else (some false)) = some r := h
 clear h
 by_cases c4 : a0 ≥ a1
 ·rw [if_pos c4] at H
  have c4b0 : decide (a1 ≤ a0) = true := aH c4
  clear c4
  obtain rfl := bU H
  go_enter Try.func26, Try.ntmps26
  go_wp2
  go_ret
  exact ⟨by first | rfl | (simp [*]; done), by repeat (exact Drawn0.refl _)⟩
 ·rw [if_neg c4] at H
  have c4b0 : decide (a1 ≤ a0) = false := aK c4
  clear c4
  obtain rfl := bU H
  go_enter Try.func26, Try.ntmps26
  go_wp2
  go_ret
  exact ⟨by first | rfl | (simp [*]; done), by repeat (exact Drawn0.refl _)⟩


/-- Index at a separator of one byte (of others nothing is told). -/
def stringslite_Index.f (a0 a1 : ByteArray) : Option Int := if h : a1.size = 1 then some (Lib.indexByte a0.data.toList (a1[0]'(by omega))) else none
theorem stringslite_Index.one (a1 : ByteArray) (h : a1.size = 1) : a1 = ⟨#[a1[0]'(by omega)]⟩ := by
 obtain ⟨⟨l⟩⟩ := a1
 match l, h with
 | [c], _ => rfl
set_option maxHeartbeats 2000000 in
set_option maxRecDepth 100000 in
theorem stringslite_Index.calls_one (s : ByteArray) (c : UInt8) (w : World) :
  Calls Try.prog 89 #[.string s, .string ⟨#[c]⟩] w fun e w' => e = .returned (.int .i64 (Lib.indexByte s.data.toList c)) ∧ Drawn0 w w' := by
 have hx : ∀ (t : ByteArray) (d : UInt8) (w1 : World), Calls Try.prog 100 #[.string t, .int .u8 d.toNat] w1 fun e w' => e = .returned (.int .i64 (Lib.indexByte t.data.toList d)) ∧ w' = w1 := by
  intro t d w1
  go_enter Try.func100, Try.ntmps100
  go_wp2
  rw [run_callFunc_extern Try.func108 (by kernel_rfl) (by kernel_rfl) (by kernel_rfl) (e := Extern.BytealgIndexByte.indexByte) (by kernel_rfl), Lib.run_indexByteString]
  simp only [Result.andThen]
  rw [Oper.upon_value]
  go_wp2
  go_ret
  exact ⟨by simp, rfl⟩
 go_enter Try.func89, Try.ntmps89
 go_wp2_with (go_at_call 100; refine (hx _ _ _).mono ?_; rintro e w' ⟨rfl, rfl⟩)
 ·have h : ([c] == s.toList) = true := by assumption
  go_ret
  refine ⟨?_, Drawn0.refl _⟩
  have e : s.data.toList = [c] := by rw [← Lib.toList_data]; exact (beq_iff_eq.1 h).symm
  rw [e]
  simp [Lib.indexByte]
 ·go_ret
  exact ⟨rfl, Drawn0.refl _⟩
theorem stringslite_Index.calls (a0 : ByteArray) (a1 : ByteArray) (r : Int) (w : World) (h : stringslite_Index.f a0 a1 = some r) :
  Calls Try.prog 89 #[.string a0, .string a1] w fun e w' => e = .returned (.int .i64 r) ∧ Drawn0 w w' := by
 unfold stringslite_Index.f at h
 split at h
 ·rename_i h1
  obtain rfl := bU h
  have e1 := stringslite_Index.one a1 h1
  have := stringslite_Index.calls_one a0 (a1[0]'(by omega)) w
  rw [← e1] at this
  exact this
 ·cases h

def strings_Index.f (a0 : ByteArray) (a1 : ByteArray) : Option (Int) := (stringslite_Index.f a0 a1).bind fun t173 => (some t173)
set_option maxHeartbeats 8000000 in
set_option maxRecDepth 100000 in
theorem strings_Index.calls (a0 : ByteArray) (a1 : ByteArray) (r : Int) (w : World) (h : strings_Index.f a0 a1 = some r) :
  Calls Try.prog 82 #[.string a0, .string a1] w fun e w' => e = .returned (.int .i64 r) ∧ Drawn0 w w' := by
 have H : ((stringslite_Index.f a0 a1).bind fun t173 => (some t173)) = some r := h
 clear h
 replace H := Option.bind_eq_some_iff.mp H
 obtain ⟨t173, A30, H⟩ := H
 replace H : (some t173) = some r := H
 have A3 := aM A30
 clear A30
 obtain rfl := bU H
 go_enter Try.func82, Try.ntmps82
 go_wp2_with (first | ((with_reducible refine aY (f := 89) rfl ?_); refine gL 7 Try.func89 #[.string a0, .string a1] ?_; (with_reducible refine (stringslite_Index.calls a0 a1 t173 _ A3.out).mono ?_); rintro e w' ⟨rfl, ⟨nd, rfl⟩⟩; refine ⟨_, rfl, ?_⟩))
 go_ret
 exact ⟨by first | rfl | (simp [*]; done), by repeat (first | exact Drawn0.refl _ | apply Drawn0.step)⟩


def strings_Contains.f (a0 : ByteArray) (a1 : ByteArray) : Option (Bool) := (strings_Index.f a0 a1).bind fun t174 => (some (decide (t174 ≥ 0)))
set_option maxHeartbeats 8000000 in
set_option maxRecDepth 100000 in
theorem strings_Contains.calls (a0 : ByteArray) (a1 : ByteArray) (r : Bool) (w : World) (h : strings_Contains.f a0 a1 = some r) :
  Calls Try.prog 61 #[.string a0, .string a1] w fun e w' => e = .returned (.bool r) ∧ Drawn0 w w' := by
 have H : ((strings_Index.f a0 a1).bind fun t174 => (some (decide (t174 ≥ 0)))) = some r := h
 clear h
 replace H := Option.bind_eq_some_iff.mp H
 obtain ⟨t174, A30, H⟩ := H
 replace H : (some (decide (t174 ≥ 0))) = some r := H
 have A3 := aM A30
 clear A30
 obtain rfl := bU H
 go_enter Try.func61, Try.ntmps61
 go_wp2_with (first | ((with_reducible refine aY (f := 82) rfl ?_); refine gL 7 Try.func82 #[.string a0, .string a1] ?_; (with_reducible refine (strings_Index.calls a0 a1 t174 _ A3.out).mono ?_); rintro e w' ⟨rfl, ⟨nd, rfl⟩⟩; refine ⟨_, rfl, ?_⟩))
 go_ret
 exact ⟨by first | rfl | (simp [*]; done), by repeat (first | exact Drawn0.refl _ | apply Drawn0.step)⟩


def stringslite_Cut.f (a0 : ByteArray) (a1 : ByteArray) : Option (ByteArray × ByteArray × Bool) := (stringslite_Index.f a0 a1).bind fun t229 => (if t229 ≥ 0 then (if 0 ≤ t229 then (if t229 ≤ (a0.size : Int) then (if 0 ≤ (wrap64 (t229 + (a1.size : Int))) then (if (wrap64 (t229 + (a1.size : Int))) ≤ (a0.size : Int) then (some (a0.extract 0 (t229 : Int).toNat, a0.extract ((wrap64 (t229 + (a1.size : Int))) : Int).toNat a0.size, true)) else (none)) else (none)) else (none)) else (none)) else (some (a0, (⟨#[]⟩ : ByteArray), false)))
set_option maxHeartbeats 8000000 in
set_option maxRecDepth 100000 in
theorem stringslite_Cut.calls (a0 : ByteArray) (a1 : ByteArray) (r1 : ByteArray) (r2 : ByteArray) (r3 : Bool) (w : World) (h : stringslite_Cut.f a0 a1 = some (r1, r2, r3)) :
  Calls Try.prog 72 #[.string a0, .string a1] w fun e w' => e = .returned (.tuple #[.string r1, .string r2, .bool r3]) ∧ Drawn0 w w' := by
 have H : ((stringslite_Index.f a0 a1).bind fun t229 => (if t229 ≥ 0 then (if 0 ≤ t229 then (if t229 ≤ (a0.size : Int) then (if 0 ≤ (wrap64 (t229 + (a1.size : Int))) then (if (wrap64 (t229 + (a1.size : Int))) ≤ (a0.size : Int) then (some (a0.extract 0 (t229 : Int).toNat, a0.extract ((wrap64 (t229 + (a1.size : Int))) : Int).toNat a0.size, true)) else (none)) else (none)) else (none)) else (none)) else (some (a0, (⟨#[]⟩ : ByteArray), false)))) = some (r1, r2, r3) := h
 clear h
 replace H := Option.bind_eq_some_iff.mp H
 obtain ⟨t229, A30, H⟩ := H
 replace H : (if t229 ≥ 0 then (if 0 ≤ t229 then (if t229 ≤ (a0.size : Int) then (if 0 ≤ (wrap64 (t229 + (a1.size : Int))) then (if (wrap64 (t229 + (a1.size : Int))) ≤ (a0.size : Int) then (some (a0.extract 0 (t229 : Int).toNat, a0.extract ((wrap64 (t229 + (a1.size : Int))) : Int).toNat a0.size, true)) else (none)) else (none)) else (none)) else (none)) else (some (a0, (⟨#[]⟩ : ByteArray), false))) = some (r1, r2, r3) := H
 have A3 := aM A30
 clear A30
 by_cases c4 : t229 ≥ 0
 ·rw [if_pos c4] at H
  have c4b0 : decide (0 ≤ t229) = true := aH c4
  clear c4
  by_cases c5 : 0 ≤ t229
  ·rw [if_pos c5] at H
   have c5b0 := eq_true c5
   have c5b1 : decide (0 ≤ t229) = true := aH c5
   clear c5
   by_cases c6 : t229 ≤ (a0.size : Int)
   ·rw [if_pos c6] at H
    have c6b0 := eq_true c6
    clear c6
    obtain ⟨ji7, hji7⟩ : ∃ j_ : Int, (wrap64 (t229 + (a1.size : Int))) = j_ := ⟨_, rfl⟩
    replace H : (if 0 ≤ (ji7) then (if (ji7) ≤ (a0.size : Int) then (some (a0.extract 0 (t229 : Int).toNat, a0.extract ((ji7) : Int).toNat a0.size, true)) else (none)) else (none)) = some (r1, r2, r3) := by first | (rw [hji7] at H; exact H)
    have hji7w : (IntKind.i64.wrap (t229 + (a1.size : Int))) = ji7 := (cS _).trans hji7
    by_cases c8 : 0 ≤ (ji7)
    ·rw [if_pos c8] at H
     have c8b0 := eq_true c8
     have c8b1 : decide (0 ≤ (ji7)) = true := aH c8
     clear c8
     by_cases c9 : (ji7) ≤ (a0.size : Int)
     ·rw [if_pos c9] at H
      have c9b0 := eq_true c9
      clear c9
      simp only [aV, aW] at H
      obtain ⟨rfl, rfl, rfl⟩ := H
      go_enter Try.func72, Try.ntmps72
      go_wp2_with (first | (go_at_call 89; (with_reducible refine (stringslite_Index.calls a0 a1 t229 _ A3.out).mono ?_); rintro e w' ⟨rfl, ⟨nd, rfl⟩⟩))
      repeat (go_quiet (fail); try go_wp2_with (fail))
      go_ret3
      exact ⟨by first | rfl | (simp [*]; done), by repeat (first | exact Drawn0.refl _ | apply Drawn0.step)⟩
     ·rw [if_neg c9] at H
      exact absurd H (by simp)
    ·rw [if_neg c8] at H
     exact absurd H (by simp)
   ·rw [if_neg c6] at H
    exact absurd H (by simp)
  ·rw [if_neg c5] at H
   exact absurd H (by simp)
 ·rw [if_neg c4] at H
  have c4b0 : decide (0 ≤ t229) = false := aK c4
  clear c4
  simp only [aV, aW] at H
  obtain ⟨rfl, rfl, rfl⟩ := H
  go_enter Try.func72, Try.ntmps72
  go_wp2_with (first | (go_at_call 89; (with_reducible refine (stringslite_Index.calls a0 a1 t229 _ A3.out).mono ?_); rintro e w' ⟨rfl, ⟨nd, rfl⟩⟩))
  repeat (go_quiet (fail); try go_wp2_with (fail))
  go_ret3
  exact ⟨by first | rfl | (simp [*]; done), by repeat (first | exact Drawn0.refl _ | apply Drawn0.step)⟩


def strings_Cut.f (a0 : ByteArray) (a1 : ByteArray) : Option (ByteArray × ByteArray × Bool) := (stringslite_Cut.f a0 a1).bind fun bt230 => (some (bt230.1, bt230.2.1, bt230.2.2))
set_option maxHeartbeats 8000000 in
set_option maxRecDepth 100000 in
theorem strings_Cut.calls (a0 : ByteArray) (a1 : ByteArray) (r1 : ByteArray) (r2 : ByteArray) (r3 : Bool) (w : World) (h : strings_Cut.f a0 a1 = some (r1, r2, r3)) :
  Calls Try.prog 51 #[.string a0, .string a1] w fun e w' => e = .returned (.tuple #[.string r1, .string r2, .bool r3]) ∧ Drawn0 w w' := by
 have H : ((stringslite_Cut.f a0 a1).bind fun bt230 => (some (bt230.1, bt230.2.1, bt230.2.2))) = some (r1, r2, r3) := h
 clear h
 replace H := Option.bind_eq_some_iff.mp H
 obtain ⟨⟨t230, t231, t232⟩, A30, H⟩ := H
 replace H : (some (t230, t231, t232)) = some (r1, r2, r3) := H
 have A3 := aM A30
 clear A30
 simp only [aV, aW] at H
 obtain ⟨rfl, rfl, rfl⟩ := H
 go_enter Try.func51, Try.ntmps51
 go_wp2_with (first | ((with_reducible refine aY (f := 72) rfl ?_); refine gL 9 Try.func72 #[.string a0, .string a1] ?_; (with_reducible refine (stringslite_Cut.calls a0 a1 t230 t231 t232 _ A3.out).mono ?_); rintro e w' ⟨rfl, ⟨nd, rfl⟩⟩; refine ⟨_, rfl, ?_⟩))
 go_ret3
 exact ⟨by first | rfl | (simp [*]; done), by repeat (first | exact Drawn0.refl _ | apply Drawn0.step)⟩


def stringslite_HasSuffix.f (a0 : ByteArray) (a1 : ByteArray) : Option (Bool) := if (a0.size : Int) ≥ (a1.size : Int) then (if 0 ≤ (wrap64 ((a0.size : Int) - (a1.size : Int))) then (if (wrap64 ((a0.size : Int) - (a1.size : Int))) ≤ (a0.size : Int) then (some ((a0.extract ((wrap64 ((a0.size : Int) - (a1.size : Int))) : Int).toNat a0.size).toList == a1.toList)) else (none)) else (none)) else (some false)
set_option maxHeartbeats 8000000 in
set_option maxRecDepth 100000 in
theorem stringslite_HasSuffix.calls (a0 : ByteArray) (a1 : ByteArray) (r : Bool) (w : World) (h : stringslite_HasSuffix.f a0 a1 = some r) :
  Calls Try.prog 90 #[.string a0, .string a1] w fun e w' => e = .returned (.bool r) ∧ Drawn0 w w' := by
 have H : (if (a0.size : Int) ≥ (a1.size : Int) then (if 0 ≤ (wrap64 ((a0.size : Int) - (a1.size : Int))) then (if (wrap64 ((a0.size : Int) - (a1.size : Int))) ≤ (a0.size : Int) then (some ((a0.extract ((wrap64 ((a0.size : Int) - (a1.size : Int))) : Int).toNat a0.size).toList == a1.toList)) else (none)) else (none)) else (some false)) = some r := h
 clear h
 by_cases c3 : (a0.size : Int) ≥ (a1.size : Int)
 ·rw [if_pos c3] at H
  have c3b1 : decide (a1.size ≤ a0.size) = true := aH (Int.ofNat_le.mp c3)
  clear c3
  obtain ⟨ji4, hji4⟩ : ∃ j_ : Int, (wrap64 ((a0.size : Int) - (a1.size : Int))) = j_ := ⟨_, rfl⟩
  replace H : (if 0 ≤ (ji4) then (if (ji4) ≤ (a0.size : Int) then (some ((a0.extract ((ji4) : Int).toNat a0.size).toList == a1.toList)) else (none)) else (none)) = some r := by first | (rw [hji4] at H; exact H)
  have hji4w : (IntKind.i64.wrap ((a0.size : Int) - (a1.size : Int))) = ji4 := (cS _).trans hji4
  by_cases c5 : 0 ≤ (ji4)
  ·rw [if_pos c5] at H
   have c5b0 := eq_true c5
   have c5b1 : decide (0 ≤ (ji4)) = true := aH c5
   clear c5
   by_cases c6 : (ji4) ≤ (a0.size : Int)
   ·rw [if_pos c6] at H
    have c6b0 := eq_true c6
    clear c6
    obtain rfl := bU H
    go_enter Try.func90, Try.ntmps90
    go_wp2
    go_ret
    exact ⟨by first | rfl | (simp [*]; done), by repeat (exact Drawn0.refl _)⟩
   ·rw [if_neg c6] at H
    exact absurd H (by simp)
  ·rw [if_neg c5] at H
   exact absurd H (by simp)
 ·rw [if_neg c3] at H
  have c3b1 : decide (a1.size ≤ a0.size) = false := aK (fun h => c3 (Int.ofNat_le.mpr h))
  clear c3
  obtain rfl := bU H
  go_enter Try.func90, Try.ntmps90
  go_wp2
  go_ret
  exact ⟨by first | rfl | (simp [*]; done), by repeat (exact Drawn0.refl _)⟩


def stringslite_CutSuffix.f (a0 : ByteArray) (a1 : ByteArray) : Option (ByteArray × Bool) := (stringslite_HasSuffix.f a0 a1).bind fun t233 => (if t233 = true then (if 0 ≤ (wrap64 ((a0.size : Int) - (a1.size : Int))) then (if (wrap64 ((a0.size : Int) - (a1.size : Int))) ≤ (a0.size : Int) then (some (a0.extract 0 ((wrap64 ((a0.size : Int) - (a1.size : Int))) : Int).toNat, true)) else (none)) else (none)) else (some (a0, false)))
set_option maxHeartbeats 8000000 in
set_option maxRecDepth 100000 in
theorem stringslite_CutSuffix.calls (a0 : ByteArray) (a1 : ByteArray) (r1 : ByteArray) (r2 : Bool) (w : World) (h : stringslite_CutSuffix.f a0 a1 = some (r1, r2)) :
  Calls Try.prog 73 #[.string a0, .string a1] w fun e w' => e = .returned (.tuple #[.string r1, .bool r2]) ∧ Drawn0 w w' := by
 have H : ((stringslite_HasSuffix.f a0 a1).bind fun t233 => (if t233 = true then (if 0 ≤ (wrap64 ((a0.size : Int) - (a1.size : Int))) then (if (wrap64 ((a0.size : Int) - (a1.size : Int))) ≤ (a0.size : Int) then (some (a0.extract 0 ((wrap64 ((a0.size : Int) - (a1.size : Int))) : Int).toNat, true)) else (none)) else (none)) else (some (a0, false)))) = some (r1, r2) := h
 clear h
 replace H := Option.bind_eq_some_iff.mp H
 obtain ⟨t233, A30, H⟩ := H
 replace H : (if t233 = true then (if 0 ≤ (wrap64 ((a0.size : Int) - (a1.size : Int))) then (if (wrap64 ((a0.size : Int) - (a1.size : Int))) ≤ (a0.size : Int) then (some (a0.extract 0 ((wrap64 ((a0.size : Int) - (a1.size : Int))) : Int).toNat, true)) else (none)) else (none)) else (some (a0, false))) = some (r1, r2) := H
 have A3 := aM A30
 clear A30
 by_cases c4 : t233 = true
 ·subst c4
  replace H : (if 0 ≤ (wrap64 ((a0.size : Int) - (a1.size : Int))) then (if (wrap64 ((a0.size : Int) - (a1.size : Int))) ≤ (a0.size : Int) then (some (a0.extract 0 ((wrap64 ((a0.size : Int) - (a1.size : Int))) : Int).toNat, true)) else (none)) else (none)) = some (r1, r2) := by rw [if_pos rfl] at H; exact H
  obtain ⟨ji5, hji5⟩ : ∃ j_ : Int, (wrap64 ((a0.size : Int) - (a1.size : Int))) = j_ := ⟨_, rfl⟩
  replace H : (if 0 ≤ (ji5) then (if (ji5) ≤ (a0.size : Int) then (some (a0.extract 0 ((ji5) : Int).toNat, true)) else (none)) else (none)) = some (r1, r2) := by first | (rw [hji5] at H; exact H)
  have hji5w : (IntKind.i64.wrap ((a0.size : Int) - (a1.size : Int))) = ji5 := (cS _).trans hji5
  by_cases c6 : 0 ≤ (ji5)
  ·rw [if_pos c6] at H
   have c6b0 := eq_true c6
   have c6b1 : decide (0 ≤ (ji5)) = true := aH c6
   clear c6
   by_cases c7 : (ji5) ≤ (a0.size : Int)
   ·rw [if_pos c7] at H
    have c7b0 := eq_true c7
    clear c7
    simp only [aV, aW] at H
    obtain ⟨rfl, rfl⟩ := H
    go_enter Try.func73, Try.ntmps73
    go_wp2_with (first | ((with_reducible refine aY (f := 90) rfl ?_); refine gL 8 Try.func90 #[.string a0, .string a1] ?_; (with_reducible refine (stringslite_HasSuffix.calls a0 a1 true _ A3.out).mono ?_); rintro e w' ⟨rfl, ⟨nd, rfl⟩⟩; refine ⟨_, rfl, ?_⟩))
    go_ret2
    exact ⟨by first | rfl | (simp [*]; done), by repeat (first | exact Drawn0.refl _ | apply Drawn0.step)⟩
   ·rw [if_neg c7] at H
    exact absurd H (by simp)
  ·rw [if_neg c6] at H
   exact absurd H (by simp)
 ·replace c4 := Bool.eq_false_iff.mpr c4
  subst c4
  replace H : (some (a0, false)) = some (r1, r2) := by rw [if_neg (show ¬ (false = true) by decide)] at H; exact H
  simp only [aV, aW] at H
  obtain ⟨rfl, rfl⟩ := H
  go_enter Try.func73, Try.ntmps73
  go_wp2_with (first | ((with_reducible refine aY (f := 90) rfl ?_); refine gL 8 Try.func90 #[.string a0, .string a1] ?_; (with_reducible refine (stringslite_HasSuffix.calls a0 a1 false _ A3.out).mono ?_); rintro e w' ⟨rfl, ⟨nd, rfl⟩⟩; refine ⟨_, rfl, ?_⟩))
  go_ret2
  exact ⟨by first | rfl | (simp [*]; done), by repeat (first | exact Drawn0.refl _ | apply Drawn0.step)⟩


def strings_CutSuffix.f (a0 : ByteArray) (a1 : ByteArray) : Option (ByteArray × Bool) := (stringslite_CutSuffix.f a0 a1).bind fun bt234 => (some (bt234.1, bt234.2))
set_option maxHeartbeats 8000000 in
set_option maxRecDepth 100000 in
theorem strings_CutSuffix.calls (a0 : ByteArray) (a1 : ByteArray) (r1 : ByteArray) (r2 : Bool) (w : World) (h : strings_CutSuffix.f a0 a1 = some (r1, r2)) :
  Calls Try.prog 52 #[.string a0, .string a1] w fun e w' => e = .returned (.tuple #[.string r1, .bool r2]) ∧ Drawn0 w w' := by
 have H : ((stringslite_CutSuffix.f a0 a1).bind fun bt234 => (some (bt234.1, bt234.2))) = some (r1, r2) := h
 clear h
 replace H := Option.bind_eq_some_iff.mp H
 obtain ⟨⟨t234, t235⟩, A30, H⟩ := H
 replace H : (some (t234, t235)) = some (r1, r2) := H
 have A3 := aM A30
 clear A30
 simp only [aV, aW] at H
 obtain ⟨rfl, rfl⟩ := H
 go_enter Try.func52, Try.ntmps52
 go_wp2_with (first | ((with_reducible refine aY (f := 73) rfl ?_); refine gL 8 Try.func73 #[.string a0, .string a1] ?_; (with_reducible refine (stringslite_CutSuffix.calls a0 a1 t234 t235 _ A3.out).mono ?_); rintro e w' ⟨rfl, ⟨nd, rfl⟩⟩; refine ⟨_, rfl, ?_⟩))
 go_ret2
 exact ⟨by first | rfl | (simp [*]; done), by repeat (first | exact Drawn0.refl _ | apply Drawn0.step)⟩


/-- The signs of a text: all are '0' or '1', and there are at most 60; false otherwise. -/
def impl_signs.ok (l : List UInt8) : Bool := l.all fun c => c == 48 || c == 49
def impl_signs.f (a0 : ByteArray) : Option (List Bool × Bool) :=
 if a0.size < 140737488355328 then
  if impl_signs.ok a0.data.toList then some (a0.data.toList.map (· == 49), decide ((a0.size : Int) ≤ 60)) else some ([], false)
 else none
theorem impl_signs.take (l : List UInt8) (k : Nat) (h : k < l.length) : l.take (k + 1) = l.take k ++ [l.getD k 0] := by
 rw [List.take_succ_eq_append_getElem h]; simp [List.getD, List.getElem?_eq_getElem h]
theorem impl_signs.step (l : List UInt8) (k : Nat) (h : k < l.length) (h0 : impl_signs.ok (l.take k) = true) (hc : l.getD k 0 = 48 ∨ l.getD k 0 = 49) : impl_signs.ok (l.take (k + 1)) = true := by
 rw [impl_signs.take l k h]
 unfold impl_signs.ok at *
 rw [List.all_append, h0]
 simp only [List.all_cons, List.all_nil, Bool.and_true, Bool.true_and]
 rcases hc with hc | hc <;> rw [hc] <;> rfl
theorem impl_signs.stop (l : List UInt8) (k : Nat) (h : k < l.length) (h1 : l.getD k 0 ≠ 48) (h2 : l.getD k 0 ≠ 49) : impl_signs.ok l = false := by
 unfold impl_signs.ok
 rw [List.all_eq_false]
 refine ⟨l.getD k 0, ?_, ?_⟩
 ·simp [List.getD, List.getElem?_eq_getElem h]
 ·simp only [Bool.or_eq_true, beq_iff_eq, not_or]; exact ⟨h1, h2⟩
theorem impl_signs.byte (b : UInt8) (n : Nat) (hn : n < 256) : b = UInt8.ofNat n ↔ (b.toNat : Int) = n := by
 constructor
 ·rintro rfl; simp; omega
 ·intro h
  have : b.toNat = n := by exact_mod_cast h
  subst this; simp
set_option maxHeartbeats 1000000 in
set_option maxRecDepth 100000 in
theorem impl_signs.calls (a0 : ByteArray) (r1 : List Bool) (r2 : Bool) (w : World) (h : impl_signs.f a0 = some (r1, r2)) :
  Calls Try.prog 53 #[.string a0] w fun e w' => ∃ v0_ : Value, e = .returned (.tuple #[v0_, .bool r2]) ∧ Kd.R Kd.bool 4 w' w.heap.size (fun _ => True) v0_ r1 ∧ Below w.heap.size w w' := by
 unfold impl_signs.f at h
 split at h
 case isFalse => cases h
 rename_i hs
 have H := Lib.hid h
 clear h
 have hrun := Lib.run_convert_string_bytes (P := Try.prog) w 9 22 5 a0 Try.underlying9 Try.underlying22 Try.underlying5
 have hl : a0.data.toList.length = a0.size := Array.length_toList
 have HL := Lib.hid hl
 clear hl
 have HC := Lib.hid (Lib.bytesWorld_cell w 5 a0)
 have HZ := Lib.hid (Lib.bytesWorld_size w 5 a0)
 have HB0 : Aside0 (Below w.heap.size w (Lib.bytesWorld w 5 a0)) := ⟨⟨rfl, rfl, rfl, by have := HZ.out; omega, fun j hj => Lib.bytesWorld_at_old w 5 a0 j hj⟩⟩
 generalize grownCap w a0.size 0 5 = cp at hrun
 generalize Lib.bytesWorld w 5 a0 = w1 at *
 have G0 : Aside0 (w.heap.size ≤ w1.heap.size) := ⟨by have := HZ.out; omega⟩
 go_enter Try.func53, Try.ntmps53
 go_wp2
 clear hrun
 go_loopw [4, 10] (fun v4 v10 w' => ∃ k : Nat, k ≤ a0.size ∧ v10 = .int .i64 k ∧ Aside0 (impl_signs.ok (a0.data.toList.take k) = true) ∧ Aside0 (Kd.R Kd.bool 4 w' w1.heap.size (fun _ => True) v4 ((a0.data.toList.take k).map (· == 49))) ∧ Aside0 (Below w1.heap.size w1 w')) (fun _ v10 _ => a0.size - (intOf v10).toNat)
 case atStart => exact ⟨0, Nat.zero_le _, rfl, ⟨rfl⟩, ⟨Kd.R_nil _ _ _ _ _⟩, ⟨cE _ _⟩⟩
 case round =>
  obtain ⟨k, hk, rfl, HO, HR, HB⟩ := hrel
  by_cases hlt : k < a0.size
  ·have hcell : wr.cell? ⟨w.heap.size, k, none⟩ = some (.int .u8 ((a0.data.toList.getD k 0).toNat : Int)) := by
    rw [← HC.out k hlt]
    exact HB.out.cell (p := ⟨w.heap.size, k, none⟩) (by have := HZ.out; simp; omega)
   have hstep := impl_signs.take a0.data.toList k (by rw [HL.out]; exact hlt)
   by_cases h48 : a0.data.toList.getD k 0 = 48 ∨ a0.data.toList.getD k 0 = 49
   ·have HN := Lib.hid (impl_signs.step _ _ (by rw [HL.out]; exact hlt) HO.out h48)
    have hlt' : decide ((k : Int) < (a0.size : Int)) = true := by simpa using hlt
    rcases h48 with h48 | h48
    ·rw [h48] at hcell hstep
     have HS := Lib.hid hstep
     clear hstep h48
     go_wp2_with (first | ((with_reducible refine gate_builtin (b := .append) (xs := #[.tmp 20, .tmp 23]) rfl ?_); at_builtin; refine Kd.R_append Kd.bool (w0 := w1) w1.heap.size rfl (.tmp 20) (.tmp 23) 52 4 (.bool false) 1 rfl Try.underlying52 info4 rfl (by decide) (by omega) u4 ((a0.data.toList.take k).map (· == 49)) false [.bool false] (fun _ => True) (fun _ => False) rfl rfl ?aP (fun _ hk => hk.elim) ?aF ?aO ?aB ?aS ?aL ?_; (case aP => exact rfl); (case aB => exact HB.out); (case aF => exact (fun _ _ => trivial)); (case aO => exact HR.out); (case aS => exact HB.out.size); (case aL => simp only [List.length_map, List.length_take]; omega); intro v105 w10 ho hb hg hat; clear HB HR; have HB := aM hb; have HR := aM ho; clear ho hb hg hat))
     go_roundw
     case rel => exact ⟨k + 1, by omega, by go_num, ⟨HN.out⟩, ⟨by rw [HS.out, List.map_append]; exact HR.out⟩, HB⟩
     case measure => simp [intOf]; omega
    ·rw [h48] at hcell hstep
     have HS := Lib.hid hstep
     clear hstep h48
     go_wp2_with (first | ((with_reducible refine gate_builtin (b := .append) (xs := #[.tmp 20, .tmp 23]) rfl ?_); at_builtin; refine Kd.R_append Kd.bool (w0 := w1) w1.heap.size rfl (.tmp 20) (.tmp 23) 52 4 (.bool false) 1 rfl Try.underlying52 info4 rfl (by decide) (by omega) u4 ((a0.data.toList.take k).map (· == 49)) true [.bool true] (fun _ => True) (fun _ => False) rfl rfl ?aP2 (fun _ hk => hk.elim) ?aF2 ?aO2 ?aB2 ?aS2 ?aL2 ?_; (case aP2 => exact rfl); (case aB2 => exact HB.out); (case aF2 => exact (fun _ _ => trivial)); (case aO2 => exact HR.out); (case aS2 => exact HB.out.size); (case aL2 => simp only [List.length_map, List.length_take]; omega); intro v105 w10 ho hb hg hat; clear HB HR; have HB := aM hb; have HR := aM ho; clear ho hb hg hat))
     go_roundw
     case rel => exact ⟨k + 1, by omega, by go_num, ⟨HN.out⟩, ⟨by rw [HS.out, List.map_append]; exact HR.out⟩, HB⟩
     case measure => simp [intOf]; omega
   ·have HN := Lib.hid (impl_signs.stop a0.data.toList k (by rw [HL.out]; exact hlt) (fun h => h48 (.inl h)) (fun h => h48 (.inr h)))
    have hv := @impl_signs.byte
    have n48 : ¬ ((a0.data.toList.getD k 0).toNat : Int) = 48 := fun e => h48 (.inl ((impl_signs.byte _ 48 (by omega)).2 e))
    have n49 : ¬ ((a0.data.toList.getD k 0).toNat : Int) = 49 := fun e => h48 (.inr ((impl_signs.byte _ 49 (by omega)).2 e))
    clear hv hstep h48
    generalize (a0.data.toList.getD k 0).toNat = c at hcell n48 n49
    have m48 : ((c : Int) != 48) = true := by simpa using n48
    have m49 : ((c : Int) != 49) = true := by simpa using n49
    clear n48 n49
    go_wp2
    have HX := H.out
    rw [HN.out] at HX
    simp only [bX, if_false, aV, aW] at HX
    obtain ⟨rfl, rfl⟩ := HX
    go_ret2
    exact ⟨_, rfl, Kd.R_nil _ _ _ _ _, below_then HB0.out G0.out HB.out⟩
  ·obtain rfl : k = a0.size := by omega
   have hok := HO.out
   have hR := HR.out
   rw [List.take_of_length_le (by rw [HL.out]; exact cD _)] at hok hR
   have HX := H.out
   rw [if_pos hok] at HX
   simp only [aV, aW] at HX
   obtain ⟨rfl, rfl⟩ := HX
   have HN := Lib.hid (Kd.R_reads hR)
   have HR' := Lib.hid hR
   clear hok hR
   obtain ⟨A, c, rfl, hlc, _⟩ := HN.out
   clear HN HR
   have HS : ((a0.data.toList.map (· == 49)).length) = a0.size := by rw [List.length_map, HL.out]
   rw [HS] at *
   clear HS
   go_wp2
   go_ret2
   have hR2 := HR'.out
   rw [List.length_map, HL.out] at hR2
   exact ⟨_, rfl, bP hR2 G0.out, below_then HB0.out G0.out HB.out⟩

def impl_setOf.f (a0 : ByteArray) : Option (List Bool × List Bool × Bool) := (strings_Cut.f a0 (⟨#[40]⟩ : ByteArray)).bind fun bt237 => ((strings_CutSuffix.f bt237.2.1 (⟨#[41]⟩ : ByteArray)).bind fun bt240 => ((impl_signs.f bt237.1).bind fun bt242 => ((impl_signs.f bt240.1).bind fun bt246 => (if bt237.2.2 = true then (if bt240.2 = true then (if bt242.2 = true then (if bt246.2 = true then (some (bt242.1, bt246.1, decide ((bt246.1.length : Int) > 0))) else (some (bt242.1, bt246.1, false))) else (some (bt242.1, bt246.1, false))) else (some (bt242.1, bt246.1, false))) else (some (bt242.1, bt246.1, false))))))
set_option maxHeartbeats 8000000 in
set_option maxRecDepth 100000 in
theorem impl_setOf.calls (a0 : ByteArray) (r1 : List Bool) (r2 : List Bool) (r3 : Bool) (w : World) (h : impl_setOf.f a0 = some (r1, r2, r3)) :
  Calls Try.prog 32 #[.string a0] w fun e w' => ∃ v0_ v1_ : Value, e = .returned (.tuple #[.agg #[v0_, v1_], .bool r3]) ∧ Kd.R Kd.bool 4 w' w.heap.size (fun k_ => some k_ ≠ (v1_ : Value).ownBlock) v0_ r1 ∧ Kd.R Kd.bool 4 w' w.heap.size (fun k_ => some k_ ≠ (v0_ : Value).ownBlock) v1_ r2 ∧ Below w.heap.size w w' := by
 have HB := aM (cE w.heap.size w)
 have H : ((strings_Cut.f a0 (⟨#[40]⟩ : ByteArray)).bind fun bt237 => ((strings_CutSuffix.f bt237.2.1 (⟨#[41]⟩ : ByteArray)).bind fun bt240 => ((impl_signs.f bt237.1).bind fun bt242 => ((impl_signs.f bt240.1).bind fun bt246 => (if bt237.2.2 = true then (if bt240.2 = true then (if bt242.2 = true then (if bt246.2 = true then (some (bt242.1, bt246.1, decide ((bt246.1.length : Int) > 0))) else (some (bt242.1, bt246.1, false))) else (some (bt242.1, bt246.1, false))) else (some (bt242.1, bt246.1, false))) else (some (bt242.1, bt246.1, false))))))) = some (r1, r2, r3) := h
 clear h
 replace H := Option.bind_eq_some_iff.mp H
 obtain ⟨⟨t237, t238, t239⟩, A20, H⟩ := H
 replace H : ((strings_CutSuffix.f t238 (⟨#[41]⟩ : ByteArray)).bind fun bt240 => ((impl_signs.f t237).bind fun bt242 => ((impl_signs.f bt240.1).bind fun bt246 => (if t239 = true then (if bt240.2 = true then (if bt242.2 = true then (if bt246.2 = true then (some (bt242.1, bt246.1, decide ((bt246.1.length : Int) > 0))) else (some (bt242.1, bt246.1, false))) else (some (bt242.1, bt246.1, false))) else (some (bt242.1, bt246.1, false))) else (some (bt242.1, bt246.1, false)))))) = some (r1, r2, r3) := H
 have A2 := aM A20
 clear A20
 replace H := Option.bind_eq_some_iff.mp H
 obtain ⟨⟨t240, t241⟩, A30, H⟩ := H
 replace H : ((impl_signs.f t237).bind fun bt242 => ((impl_signs.f t240).bind fun bt246 => (if t239 = true then (if t241 = true then (if bt242.2 = true then (if bt246.2 = true then (some (bt242.1, bt246.1, decide ((bt246.1.length : Int) > 0))) else (some (bt242.1, bt246.1, false))) else (some (bt242.1, bt246.1, false))) else (some (bt242.1, bt246.1, false))) else (some (bt242.1, bt246.1, false))))) = some (r1, r2, r3) := H
 have A3 := aM A30
 clear A30
 replace H := Option.bind_eq_some_iff.mp H
 obtain ⟨⟨t242, t243⟩, A40, H⟩ := H
 replace H : ((impl_signs.f t240).bind fun bt246 => (if t239 = true then (if t241 = true then (if t243 = true then (if bt246.2 = true then (some (t242, bt246.1, decide ((bt246.1.length : Int) > 0))) else (some (t242, bt246.1, false))) else (some (t242, bt246.1, false))) else (some (t242, bt246.1, false))) else (some (t242, bt246.1, false)))) = some (r1, r2, r3) := H
 have A4 := aM A40
 clear A40
 replace H := Option.bind_eq_some_iff.mp H
 obtain ⟨⟨t246, t247⟩, A50, H⟩ := H
 replace H : (if t239 = true then (if t241 = true then (if t243 = true then (if t247 = true then (some (t242, t246, decide ((t246.length : Int) > 0))) else (some (t242, t246, false))) else (some (t242, t246, false))) else (some (t242, t246, false))) else (some (t242, t246, false))) = some (r1, r2, r3) := H
 have A5 := aM A50
 clear A50
 by_cases c6 : t239 = true
 ·subst c6
  replace H : (if t241 = true then (if t243 = true then (if t247 = true then (some (t242, t246, decide ((t246.length : Int) > 0))) else (some (t242, t246, false))) else (some (t242, t246, false))) else (some (t242, t246, false))) = some (r1, r2, r3) := by rw [if_pos rfl] at H; exact H
  by_cases c7 : t241 = true
  ·subst c7
   replace H : (if t243 = true then (if t247 = true then (some (t242, t246, decide ((t246.length : Int) > 0))) else (some (t242, t246, false))) else (some (t242, t246, false))) = some (r1, r2, r3) := by rw [if_pos rfl] at H; exact H
   by_cases c8 : t243 = true
   ·subst c8
    replace H : (if t247 = true then (some (t242, t246, decide ((t246.length : Int) > 0))) else (some (t242, t246, false))) = some (r1, r2, r3) := by rw [if_pos rfl] at H; exact H
    by_cases c9 : t247 = true
    all_goals
     first
     |replace c9 := Bool.eq_false_iff.mpr c9
     |skip
     subst c9
     first
     |have H1 : (some (t242, t246, decide ((t246.length : Int) > 0))) = some (r1, r2, r3) := by rw [if_pos rfl] at H; exact H
     |have H1 : (some (t242, t246, false)) = some (r1, r2, r3) := by rw [if_neg (show ¬ (false = true) by decide)] at H; exact H
     clear H
     have H := H1
     clear H1
     simp only [aV, aW] at H
     obtain ⟨rfl, rfl, rfl⟩ := H
     go_enter Try.func32, Try.ntmps32
     go_wp2_with (first | ((with_reducible refine aZ (N := 2) rfl ?_); (try (refine gate_guard (by rfl) ?_; dsimp only)); refine bB ?hg (N := 2) ?hd (cs := #[.slice none 0 0, .slice none 0 0]) (t := 56) ?hr ?_; (case hd => rfl); (case hg => rfl); (case hr => first | (go_simp; done)); intro gb236 hg w10 hbox hb; have BK236 := aM hbox; have GE236 := aM ((by rw [hg]; exact (aG HB.out) : w.heap.size ≤ gb236)); replace HB := aM (aE HB.out hb); clear hb hbox hg) | ((with_reducible refine aY (f := 51) rfl ?_); refine gL 15 Try.func51 #[.string a0, .string (⟨#[40]⟩ : ByteArray)] ?_; (with_reducible refine (strings_Cut.calls a0 (⟨#[40]⟩ : ByteArray) t237 t238 true _ A2.out).mono ?_); rintro e w' ⟨rfl, ⟨nd, rfl⟩⟩; refine ⟨_, rfl, ?_⟩; (try (rw [drewN_self w10]; generalize hq_ : World.drewN w10 _ = w10; have n0_ : Aside0 (w10.heap[gb236]? = some (.cells #[.slice none 0 0, .slice none 0 0] 56 (0, 0))) := ⟨by rw [← hq_]; exact (by (with_reducible repeat (refine kN ?_ _)); exact BK236.out)⟩; have n1_ : Aside0 (Below w.heap.size w w10) := ⟨by rw [← hq_]; exact (by repeat (first | (with_reducible first | exact HB.out | apply bN)))⟩; clear BK236 HB hq_; have BK236 := n0_; have HB := n1_; clear n0_ n1_))) | ((with_reducible refine aY (f := 52) rfl ?_); refine gL 21 Try.func52 #[.string t238, .string (⟨#[41]⟩ : ByteArray)] ?_; (with_reducible refine (strings_CutSuffix.calls t238 (⟨#[41]⟩ : ByteArray) t240 true _ A3.out).mono ?_); rintro e w' ⟨rfl, ⟨nd, rfl⟩⟩; refine ⟨_, rfl, ?_⟩; (try (rw [drewN_self w10]; generalize hq_ : World.drewN w10 _ = w10; have n0_ : Aside0 (w10.heap[gb236]? = some (.cells #[.slice none 0 0, .slice none 0 0] 56 (0, 0))) := ⟨by rw [← hq_]; exact (by (with_reducible repeat (refine kN ?_ _)); exact BK236.out)⟩; have n1_ : Aside0 (Below w.heap.size w w10) := ⟨by rw [← hq_]; exact (by repeat (first | (with_reducible first | exact HB.out | apply bN)))⟩; clear BK236 HB hq_; have BK236 := n0_; have HB := n1_; clear n0_ n1_))) | ((with_reducible refine aY (f := 53) rfl ?_); refine gL 26 Try.func53 #[.string t237] ?_; (with_reducible refine (impl_signs.calls t237 t242 true _ A4.out).mono ?_); rintro e w11 ⟨v244, rfl, ho0, hb⟩; refine ⟨_, rfl, ?_⟩; have HO245 := aM (bP ho0 (aG HB.out)); replace BK236 := aM (aD (g := gb236) (o := .cells #[.slice none 0 0, .slice none 0 0] 56 (0, 0)) BK236.out hb); replace HB := aM (aE HB.out hb); (try clear hb); (try clear ho0)) | ((with_reducible refine aY (f := 53) rfl ?_); refine gL 31 Try.func53 #[.string t240] ?_; (with_reducible refine (impl_signs.calls t240 t246 _ _ A5.out).mono ?_); rintro e w12 ⟨v248, rfl, ho0, hb⟩; refine ⟨_, rfl, ?_⟩; have HO249 := aM (bP (Kd.R_new' ho0 (Kd.R_lt HO245.out)) (aG HB.out)); replace HO245 := aM (Kd.R_elder' HO245.out (Kd.R_base ho0) hb); replace BK236 := aM (aD (g := gb236) (o := .cells #[.slice none 0 0, .slice none 0 0] 56 (0, 0)) BK236.out hb); replace HB := aM (aE HB.out hb); (try clear hb); (try clear ho0); obtain ⟨Ao13, co13, eo13⟩ := bL HO249.out; subst eo13; obtain ⟨Ao14, co14, eo14⟩ := bL HO245.out; subst eo14; have hcz15_0 : w12.cell? ⟨gb236, 0, none⟩ = some (.slice none 0 0) := (aA BK236.out 0).trans rfl; have hcz15_1 : w12.cell? ⟨gb236, 1, none⟩ = some (.slice none 0 0) := (aA BK236.out 1).trans rfl; have hfz15_0 := aC BK236.out 0; have hfz15_1 := aC BK236.out 1))
     refine cF (cG rfl _ _ gb236 56 #[.slice Ao14 t242.length co14, .slice Ao13 t246.length co13] (0, 0) _ rfl (by refine bV (cs := #[.slice Ao14 t242.length co14, .slice none 0 0]) ?_ 1 _ rfl; refine bV (cs := #[.slice none 0 0, .slice none 0 0]) ?_ 0 _ rfl; exact BK236.out) Try.underlying56 rfl (by kernel_rfl)) rfl ?_
     first
     |exact ⟨_, _, by first | (simp [errW_none, errW_some]; exact ⟨rfl, rfl⟩) | (simp [*, errW_none, errW_some] <;> rfl), by exact bJ (bC (p := ⟨gb236, 1, none⟩) (bC (p := ⟨gb236, 0, none⟩) (bE HO245.out BK236.out (by decide)) (fun _ hk => hk.2) (.slice Ao14 t242.length co14)) (fun _ hk => hk.2) (.slice Ao13 t246.length co13)) (fun _ hk => hk.1.2), by exact bJ (bC (p := ⟨gb236, 1, none⟩) (bC (p := ⟨gb236, 0, none⟩) (bE HO249.out BK236.out (by decide)) (fun _ hk => hk.2) (.slice Ao14 t242.length co14)) (fun _ hk => hk.2) (.slice Ao13 t246.length co13)) (fun _ hk => hk.1.2), by repeat (first | (with_reducible first | exact HB.out | refine bS ?_ GE236.out))⟩
     |exact ⟨_, _, by first | rfl | (simp [*, errW_none, errW_some] <;> rfl), by exact bJ (bC (p := ⟨gb236, 1, none⟩) (bC (p := ⟨gb236, 0, none⟩) (bE HO245.out BK236.out (by decide)) (fun _ hk => hk.2) (.slice Ao14 t242.length co14)) (fun _ hk => hk.2) (.slice Ao13 t246.length co13)) (fun _ hk => hk.1.2), by exact bJ (bC (p := ⟨gb236, 1, none⟩) (bC (p := ⟨gb236, 0, none⟩) (bE HO249.out BK236.out (by decide)) (fun _ hk => hk.2) (.slice Ao14 t242.length co14)) (fun _ hk => hk.2) (.slice Ao13 t246.length co13)) (fun _ hk => hk.1.2), by repeat (first | (with_reducible first | exact HB.out | refine bS ?_ GE236.out))⟩
   ·replace c8 := Bool.eq_false_iff.mpr c8
    subst c8
    replace H : (some (t242, t246, false)) = some (r1, r2, r3) := by rw [if_neg (show ¬ (false = true) by decide)] at H; exact H
    simp only [aV, aW] at H
    obtain ⟨rfl, rfl, rfl⟩ := H
    go_enter Try.func32, Try.ntmps32
    go_wp2_with (first | ((with_reducible refine aZ (N := 2) rfl ?_); (try (refine gate_guard (by rfl) ?_; dsimp only)); refine bB ?hg (N := 2) ?hd (cs := #[.slice none 0 0, .slice none 0 0]) (t := 56) ?hr ?_; (case hd => rfl); (case hg => rfl); (case hr => first | (go_simp; done)); intro gb236 hg w22 hbox hb; have BK236 := aM hbox; have GE236 := aM ((by rw [hg]; exact (aG HB.out) : w.heap.size ≤ gb236)); replace HB := aM (aE HB.out hb); clear hb hbox hg) | ((with_reducible refine aY (f := 51) rfl ?_); refine gL 15 Try.func51 #[.string a0, .string (⟨#[40]⟩ : ByteArray)] ?_; (with_reducible refine (strings_Cut.calls a0 (⟨#[40]⟩ : ByteArray) t237 t238 true _ A2.out).mono ?_); rintro e w' ⟨rfl, ⟨nd, rfl⟩⟩; refine ⟨_, rfl, ?_⟩; (try (rw [drewN_self w22]; generalize hq_ : World.drewN w22 _ = w22; have n0_ : Aside0 (w22.heap[gb236]? = some (.cells #[.slice none 0 0, .slice none 0 0] 56 (0, 0))) := ⟨by rw [← hq_]; exact (by (with_reducible repeat (refine kN ?_ _)); exact BK236.out)⟩; have n1_ : Aside0 (Below w.heap.size w w22) := ⟨by rw [← hq_]; exact (by repeat (first | (with_reducible first | exact HB.out | apply bN)))⟩; clear BK236 HB hq_; have BK236 := n0_; have HB := n1_; clear n0_ n1_))) | ((with_reducible refine aY (f := 52) rfl ?_); refine gL 21 Try.func52 #[.string t238, .string (⟨#[41]⟩ : ByteArray)] ?_; (with_reducible refine (strings_CutSuffix.calls t238 (⟨#[41]⟩ : ByteArray) t240 true _ A3.out).mono ?_); rintro e w' ⟨rfl, ⟨nd, rfl⟩⟩; refine ⟨_, rfl, ?_⟩; (try (rw [drewN_self w22]; generalize hq_ : World.drewN w22 _ = w22; have n0_ : Aside0 (w22.heap[gb236]? = some (.cells #[.slice none 0 0, .slice none 0 0] 56 (0, 0))) := ⟨by rw [← hq_]; exact (by (with_reducible repeat (refine kN ?_ _)); exact BK236.out)⟩; have n1_ : Aside0 (Below w.heap.size w w22) := ⟨by rw [← hq_]; exact (by repeat (first | (with_reducible first | exact HB.out | apply bN)))⟩; clear BK236 HB hq_; have BK236 := n0_; have HB := n1_; clear n0_ n1_))) | ((with_reducible refine aY (f := 53) rfl ?_); refine gL 26 Try.func53 #[.string t237] ?_; (with_reducible refine (impl_signs.calls t237 t242 false _ A4.out).mono ?_); rintro e w23 ⟨v244, rfl, ho0, hb⟩; refine ⟨_, rfl, ?_⟩; have HO245 := aM (bP ho0 (aG HB.out)); replace BK236 := aM (aD (g := gb236) (o := .cells #[.slice none 0 0, .slice none 0 0] 56 (0, 0)) BK236.out hb); replace HB := aM (aE HB.out hb); (try clear hb); (try clear ho0)) | ((with_reducible refine aY (f := 53) rfl ?_); refine gL 31 Try.func53 #[.string t240] ?_; (with_reducible refine (impl_signs.calls t240 t246 t247 _ A5.out).mono ?_); rintro e w24 ⟨v248, rfl, ho0, hb⟩; refine ⟨_, rfl, ?_⟩; have HO249 := aM (bP (Kd.R_new' ho0 (Kd.R_lt HO245.out)) (aG HB.out)); replace HO245 := aM (Kd.R_elder' HO245.out (Kd.R_base ho0) hb); replace BK236 := aM (aD (g := gb236) (o := .cells #[.slice none 0 0, .slice none 0 0] 56 (0, 0)) BK236.out hb); replace HB := aM (aE HB.out hb); (try clear hb); (try clear ho0); obtain ⟨Ao25, co25, eo25⟩ := bL HO249.out; subst eo25; obtain ⟨Ao26, co26, eo26⟩ := bL HO245.out; subst eo26; have hcz27_0 : w24.cell? ⟨gb236, 0, none⟩ = some (.slice none 0 0) := (aA BK236.out 0).trans rfl; have hcz27_1 : w24.cell? ⟨gb236, 1, none⟩ = some (.slice none 0 0) := (aA BK236.out 1).trans rfl; have hfz27_0 := aC BK236.out 0; have hfz27_1 := aC BK236.out 1))
    refine cF (cG rfl _ _ gb236 56 #[.slice Ao26 t242.length co26, .slice Ao25 t246.length co25] (0, 0) _ rfl (by refine bV (cs := #[.slice Ao26 t242.length co26, .slice none 0 0]) ?_ 1 _ rfl; refine bV (cs := #[.slice none 0 0, .slice none 0 0]) ?_ 0 _ rfl; exact BK236.out) Try.underlying56 rfl (by kernel_rfl)) rfl ?_
    exact ⟨_, _, by first | rfl | (simp [*, errW_none, errW_some] <;> rfl), by exact bJ (bC (p := ⟨gb236, 1, none⟩) (bC (p := ⟨gb236, 0, none⟩) (bE HO245.out BK236.out (by decide)) (fun _ hk => hk.2) (.slice Ao26 t242.length co26)) (fun _ hk => hk.2) (.slice Ao25 t246.length co25)) (fun _ hk => hk.1.2), by exact bJ (bC (p := ⟨gb236, 1, none⟩) (bC (p := ⟨gb236, 0, none⟩) (bE HO249.out BK236.out (by decide)) (fun _ hk => hk.2) (.slice Ao26 t242.length co26)) (fun _ hk => hk.2) (.slice Ao25 t246.length co25)) (fun _ hk => hk.1.2), by repeat (first | (with_reducible first | exact HB.out | refine bS ?_ GE236.out))⟩
  ·replace c7 := Bool.eq_false_iff.mpr c7
   subst c7
   replace H : (some (t242, t246, false)) = some (r1, r2, r3) := by rw [if_neg (show ¬ (false = true) by decide)] at H; exact H
   simp only [aV, aW] at H
   obtain ⟨rfl, rfl, rfl⟩ := H
   go_enter Try.func32, Try.ntmps32
   go_wp2_with (first | ((with_reducible refine aZ (N := 2) rfl ?_); (try (refine gate_guard (by rfl) ?_; dsimp only)); refine bB ?hg (N := 2) ?hd (cs := #[.slice none 0 0, .slice none 0 0]) (t := 56) ?hr ?_; (case hd => rfl); (case hg => rfl); (case hr => first | (go_simp; done)); intro gb236 hg w28 hbox hb; have BK236 := aM hbox; have GE236 := aM ((by rw [hg]; exact (aG HB.out) : w.heap.size ≤ gb236)); replace HB := aM (aE HB.out hb); clear hb hbox hg) | ((with_reducible refine aY (f := 51) rfl ?_); refine gL 15 Try.func51 #[.string a0, .string (⟨#[40]⟩ : ByteArray)] ?_; (with_reducible refine (strings_Cut.calls a0 (⟨#[40]⟩ : ByteArray) t237 t238 true _ A2.out).mono ?_); rintro e w' ⟨rfl, ⟨nd, rfl⟩⟩; refine ⟨_, rfl, ?_⟩; (try (rw [drewN_self w28]; generalize hq_ : World.drewN w28 _ = w28; have n0_ : Aside0 (w28.heap[gb236]? = some (.cells #[.slice none 0 0, .slice none 0 0] 56 (0, 0))) := ⟨by rw [← hq_]; exact (by (with_reducible repeat (refine kN ?_ _)); exact BK236.out)⟩; have n1_ : Aside0 (Below w.heap.size w w28) := ⟨by rw [← hq_]; exact (by repeat (first | (with_reducible first | exact HB.out | apply bN)))⟩; clear BK236 HB hq_; have BK236 := n0_; have HB := n1_; clear n0_ n1_))) | ((with_reducible refine aY (f := 52) rfl ?_); refine gL 21 Try.func52 #[.string t238, .string (⟨#[41]⟩ : ByteArray)] ?_; (with_reducible refine (strings_CutSuffix.calls t238 (⟨#[41]⟩ : ByteArray) t240 false _ A3.out).mono ?_); rintro e w' ⟨rfl, ⟨nd, rfl⟩⟩; refine ⟨_, rfl, ?_⟩; (try (rw [drewN_self w28]; generalize hq_ : World.drewN w28 _ = w28; have n0_ : Aside0 (w28.heap[gb236]? = some (.cells #[.slice none 0 0, .slice none 0 0] 56 (0, 0))) := ⟨by rw [← hq_]; exact (by (with_reducible repeat (refine kN ?_ _)); exact BK236.out)⟩; have n1_ : Aside0 (Below w.heap.size w w28) := ⟨by rw [← hq_]; exact (by repeat (first | (with_reducible first | exact HB.out | apply bN)))⟩; clear BK236 HB hq_; have BK236 := n0_; have HB := n1_; clear n0_ n1_))) | ((with_reducible refine aY (f := 53) rfl ?_); refine gL 26 Try.func53 #[.string t237] ?_; (with_reducible refine (impl_signs.calls t237 t242 t243 _ A4.out).mono ?_); rintro e w29 ⟨v244, rfl, ho0, hb⟩; refine ⟨_, rfl, ?_⟩; have HO245 := aM (bP ho0 (aG HB.out)); replace BK236 := aM (aD (g := gb236) (o := .cells #[.slice none 0 0, .slice none 0 0] 56 (0, 0)) BK236.out hb); replace HB := aM (aE HB.out hb); (try clear hb); (try clear ho0)) | ((with_reducible refine aY (f := 53) rfl ?_); refine gL 31 Try.func53 #[.string t240] ?_; (with_reducible refine (impl_signs.calls t240 t246 t247 _ A5.out).mono ?_); rintro e w30 ⟨v248, rfl, ho0, hb⟩; refine ⟨_, rfl, ?_⟩; have HO249 := aM (bP (Kd.R_new' ho0 (Kd.R_lt HO245.out)) (aG HB.out)); replace HO245 := aM (Kd.R_elder' HO245.out (Kd.R_base ho0) hb); replace BK236 := aM (aD (g := gb236) (o := .cells #[.slice none 0 0, .slice none 0 0] 56 (0, 0)) BK236.out hb); replace HB := aM (aE HB.out hb); (try clear hb); (try clear ho0); obtain ⟨Ao31, co31, eo31⟩ := bL HO249.out; subst eo31; obtain ⟨Ao32, co32, eo32⟩ := bL HO245.out; subst eo32; have hcz33_0 : w30.cell? ⟨gb236, 0, none⟩ = some (.slice none 0 0) := (aA BK236.out 0).trans rfl; have hcz33_1 : w30.cell? ⟨gb236, 1, none⟩ = some (.slice none 0 0) := (aA BK236.out 1).trans rfl; have hfz33_0 := aC BK236.out 0; have hfz33_1 := aC BK236.out 1))
   refine cF (cG rfl _ _ gb236 56 #[.slice Ao32 t242.length co32, .slice Ao31 t246.length co31] (0, 0) _ rfl (by refine bV (cs := #[.slice Ao32 t242.length co32, .slice none 0 0]) ?_ 1 _ rfl; refine bV (cs := #[.slice none 0 0, .slice none 0 0]) ?_ 0 _ rfl; exact BK236.out) Try.underlying56 rfl (by kernel_rfl)) rfl ?_
   exact ⟨_, _, by first | rfl | (simp [*, errW_none, errW_some] <;> rfl), by exact bJ (bC (p := ⟨gb236, 1, none⟩) (bC (p := ⟨gb236, 0, none⟩) (bE HO245.out BK236.out (by decide)) (fun _ hk => hk.2) (.slice Ao32 t242.length co32)) (fun _ hk => hk.2) (.slice Ao31 t246.length co31)) (fun _ hk => hk.1.2), by exact bJ (bC (p := ⟨gb236, 1, none⟩) (bC (p := ⟨gb236, 0, none⟩) (bE HO249.out BK236.out (by decide)) (fun _ hk => hk.2) (.slice Ao32 t242.length co32)) (fun _ hk => hk.2) (.slice Ao31 t246.length co31)) (fun _ hk => hk.1.2), by repeat (first | (with_reducible first | exact HB.out | refine bS ?_ GE236.out))⟩
 ·replace c6 := Bool.eq_false_iff.mpr c6
  subst c6
  replace H : (some (t242, t246, false)) = some (r1, r2, r3) := by rw [if_neg (show ¬ (false = true) by decide)] at H; exact H
  simp only [aV, aW] at H
  obtain ⟨rfl, rfl, rfl⟩ := H
  go_enter Try.func32, Try.ntmps32
  go_wp2_with (first | ((with_reducible refine aZ (N := 2) rfl ?_); (try (refine gate_guard (by rfl) ?_; dsimp only)); refine bB ?hg (N := 2) ?hd (cs := #[.slice none 0 0, .slice none 0 0]) (t := 56) ?hr ?_; (case hd => rfl); (case hg => rfl); (case hr => first | (go_simp; done)); intro gb236 hg w34 hbox hb; have BK236 := aM hbox; have GE236 := aM ((by rw [hg]; exact (aG HB.out) : w.heap.size ≤ gb236)); replace HB := aM (aE HB.out hb); clear hb hbox hg) | ((with_reducible refine aY (f := 51) rfl ?_); refine gL 15 Try.func51 #[.string a0, .string (⟨#[40]⟩ : ByteArray)] ?_; (with_reducible refine (strings_Cut.calls a0 (⟨#[40]⟩ : ByteArray) t237 t238 false _ A2.out).mono ?_); rintro e w' ⟨rfl, ⟨nd, rfl⟩⟩; refine ⟨_, rfl, ?_⟩; (try (rw [drewN_self w34]; generalize hq_ : World.drewN w34 _ = w34; have n0_ : Aside0 (w34.heap[gb236]? = some (.cells #[.slice none 0 0, .slice none 0 0] 56 (0, 0))) := ⟨by rw [← hq_]; exact (by (with_reducible repeat (refine kN ?_ _)); exact BK236.out)⟩; have n1_ : Aside0 (Below w.heap.size w w34) := ⟨by rw [← hq_]; exact (by repeat (first | (with_reducible first | exact HB.out | apply bN)))⟩; clear BK236 HB hq_; have BK236 := n0_; have HB := n1_; clear n0_ n1_))) | ((with_reducible refine aY (f := 52) rfl ?_); refine gL 21 Try.func52 #[.string t238, .string (⟨#[41]⟩ : ByteArray)] ?_; (with_reducible refine (strings_CutSuffix.calls t238 (⟨#[41]⟩ : ByteArray) t240 t241 _ A3.out).mono ?_); rintro e w' ⟨rfl, ⟨nd, rfl⟩⟩; refine ⟨_, rfl, ?_⟩; (try (rw [drewN_self w34]; generalize hq_ : World.drewN w34 _ = w34; have n0_ : Aside0 (w34.heap[gb236]? = some (.cells #[.slice none 0 0, .slice none 0 0] 56 (0, 0))) := ⟨by rw [← hq_]; exact (by (with_reducible repeat (refine kN ?_ _)); exact BK236.out)⟩; have n1_ : Aside0 (Below w.heap.size w w34) := ⟨by rw [← hq_]; exact (by repeat (first | (with_reducible first | exact HB.out | apply bN)))⟩; clear BK236 HB hq_; have BK236 := n0_; have HB := n1_; clear n0_ n1_))) | ((with_reducible refine aY (f := 53) rfl ?_); refine gL 26 Try.func53 #[.string t237] ?_; (with_reducible refine (impl_signs.calls t237 t242 t243 _ A4.out).mono ?_); rintro e w35 ⟨v244, rfl, ho0, hb⟩; refine ⟨_, rfl, ?_⟩; have HO245 := aM (bP ho0 (aG HB.out)); replace BK236 := aM (aD (g := gb236) (o := .cells #[.slice none 0 0, .slice none 0 0] 56 (0, 0)) BK236.out hb); replace HB := aM (aE HB.out hb); (try clear hb); (try clear ho0)) | ((with_reducible refine aY (f := 53) rfl ?_); refine gL 31 Try.func53 #[.string t240] ?_; (with_reducible refine (impl_signs.calls t240 t246 t247 _ A5.out).mono ?_); rintro e w36 ⟨v248, rfl, ho0, hb⟩; refine ⟨_, rfl, ?_⟩; have HO249 := aM (bP (Kd.R_new' ho0 (Kd.R_lt HO245.out)) (aG HB.out)); replace HO245 := aM (Kd.R_elder' HO245.out (Kd.R_base ho0) hb); replace BK236 := aM (aD (g := gb236) (o := .cells #[.slice none 0 0, .slice none 0 0] 56 (0, 0)) BK236.out hb); replace HB := aM (aE HB.out hb); (try clear hb); (try clear ho0); obtain ⟨Ao37, co37, eo37⟩ := bL HO249.out; subst eo37; obtain ⟨Ao38, co38, eo38⟩ := bL HO245.out; subst eo38; have hcz39_0 : w36.cell? ⟨gb236, 0, none⟩ = some (.slice none 0 0) := (aA BK236.out 0).trans rfl; have hcz39_1 : w36.cell? ⟨gb236, 1, none⟩ = some (.slice none 0 0) := (aA BK236.out 1).trans rfl; have hfz39_0 := aC BK236.out 0; have hfz39_1 := aC BK236.out 1))
  refine cF (cG rfl _ _ gb236 56 #[.slice Ao38 t242.length co38, .slice Ao37 t246.length co37] (0, 0) _ rfl (by refine bV (cs := #[.slice Ao38 t242.length co38, .slice none 0 0]) ?_ 1 _ rfl; refine bV (cs := #[.slice none 0 0, .slice none 0 0]) ?_ 0 _ rfl; exact BK236.out) Try.underlying56 rfl (by kernel_rfl)) rfl ?_
  exact ⟨_, _, by first | rfl | (simp [*, errW_none, errW_some] <;> rfl), by exact bJ (bC (p := ⟨gb236, 1, none⟩) (bC (p := ⟨gb236, 0, none⟩) (bE HO245.out BK236.out (by decide)) (fun _ hk => hk.2) (.slice Ao38 t242.length co38)) (fun _ hk => hk.2) (.slice Ao37 t246.length co37)) (fun _ hk => hk.1.2), by exact bJ (bC (p := ⟨gb236, 1, none⟩) (bC (p := ⟨gb236, 0, none⟩) (bE HO249.out BK236.out (by decide)) (fun _ hk => hk.2) (.slice Ao38 t242.length co38)) (fun _ hk => hk.2) (.slice Ao37 t246.length co37)) (fun _ hk => hk.1.2), by repeat (first | (with_reducible first | exact HB.out | refine bS ?_ GE236.out))⟩


def impl_turns.l0 : Nat → List Bool → Int → Int → Int → Option (Bool)
 | 0, _, _, _, _ => none
 | k + 1, x0, x1, x7, x8 => if x8 < x7 then (if 0 ≤ x8 then (if x8 < (x0.length : Int) then (if x1 = 0 then (none) else (if 0 ≤ (Int.tmod x8 x1) then (if (Int.tmod x8 x1) < (x0.length : Int) then (if ((rdOf false x0 x8) != (rdOf false x0 (Int.tmod x8 x1))) = true then (some false) else (impl_turns.l0 k x0 x1 x7 (wrap64 (x8 + 1)))) else (none)) else (none))) else (none)) else (none)) else (if x1 = 0 then (none) else (some (((x0.length : Int) % x1) == 0)))
def impl_turns.f (k : Nat) (l0 : List Bool) (a1 : Int) : Option (Bool) := impl_turns.l0 k l0 a1 (l0.length : Int) 0
theorem impl_turns.mono_l : ∀ k, (∀ y0 y1 y2 y3, LeO (impl_turns.l0 k y0 y1 y2 y3) (impl_turns.l0 (k + 1) y0 y1 y2 y3))
 | 0 => fun _ _ _ _ r h => by simp [impl_turns.l0] at h
 | k + 1 => by
  have ih0 := impl_turns.mono_l k
  ·intro y0 y1 y2 y3
   unfold impl_turns.l0
   repeat' first | (with_reducible exact ih0 _ _ _ _) | (with_reducible exact LeO.refl _) | (with_reducible refine LeO.ite ?_ ?_)
theorem impl_turns.mono : ∀ a0 a1 k, LeO (impl_turns.f k a0 a1) (impl_turns.f (k + 1) a0 a1) := by
 intro a0 a1 k
 have ih0 := impl_turns.mono_l k
 unfold impl_turns.f
 repeat' (with_reducible exact ih0 _ _ _ _)
set_option maxHeartbeats 8000000 in
set_option maxRecDepth 100000 in
theorem impl_turns.calls (k : Nat) (A0 : Option Addr) (c0 : Nat) (l0 : List Bool) (a1 : Int) (r : Bool) (w : World) (hr0 : Kd.C Kd.bool w A0 l0.length l0) (hc0 : l0.length ≤ c0) (h : impl_turns.f k l0 a1 = some r) :
  Calls Try.prog 78 #[.slice A0 l0.length c0, .int .i64 a1] w fun e w' => e = .returned (.bool r) ∧ Drawn0 w w' := by
 have HR0 := aM hr0
 clear hr0 hc0
 have H : (impl_turns.l0 k l0 a1 (l0.length : Int) 0) = some r := h
 clear h
 have H' := aM H
 clear H
 go_enter Try.func78, Try.ntmps78
 go_wp2
 repeat (go_quiet (fail); try go_wp2)
 go_loopg [8] k (fun kq v8 w' => ∃ (x8_1 : Int), v8 = .int .i64 x8_1 ∧ Aside0 (impl_turns.l0 kq l0 a1 (l0.length : Int) x8_1 = some r) ∧ Aside0 (kq ≤ k) ∧ Drawn0 w w')
 case atStart => exact ⟨(0), (by rfl), H', ⟨cD _⟩, by repeat (exact Drawn0.refl _)⟩
 case round =>
  clear H'
  obtain ⟨x8_1, rfl, HA, HK1, ⟨m1, rfl⟩⟩ := hrel
  cases gk with
  | zero => exact absurd HA.out (by simp [impl_turns.l0])
  | succ k1 =>
   have H := HA.out
   clear HA
   simp only [impl_turns.l0] at H
   by_cases c3 : x8_1 < (l0.length : Int)
   ·rw [if_pos c3] at H
    have c3b0 : decide (x8_1 < (l0.length : Int)) = true := aH c3
    clear c3
    by_cases c4 : 0 ≤ x8_1
    ·rw [if_pos c4] at H
     have c4b0 : decide (0 ≤ x8_1) = true := aH c4
     clear c4
     by_cases c5 : x8_1 < (l0.length : Int)
     ·rw [if_pos c5] at H
      have c5b0 : decide (x8_1 < (l0.length : Int)) = true := aH c5
      clear c5
      by_cases c6 : a1 = 0
      ·rw [if_pos c6] at H
       exact absurd H (by simp)
      ·rw [if_neg c6] at H
       obtain ⟨ji7, hji7⟩ : ∃ j_ : Int, (Int.tmod x8_1 a1) = j_ := ⟨_, rfl⟩
       replace H : (if 0 ≤ (ji7) then (if (ji7) < (l0.length : Int) then (if ((rdOf false l0 x8_1) != (rdOf false l0 (ji7))) = true then (some false) else (impl_turns.l0 k1 l0 a1 (l0.length : Int) (wrap64 (x8_1 + 1)))) else (none)) else (none)) = some r := by first | (rw [hji7] at H; exact H)
       by_cases c8 : 0 ≤ (ji7)
       ·rw [if_pos c8] at H
        have c8b0 : decide (0 ≤ (ji7)) = true := aH c8
        clear c8
        by_cases c9 : (ji7) < (l0.length : Int)
        ·rw [if_pos c9] at H
         have c9b0 : decide ((ji7) < (l0.length : Int)) = true := aH c9
         clear c9
         by_cases c10 : ((rdOf false l0 x8_1) != (rdOf false l0 (ji7))) = true
         all_goals
          first
          |rw [if_pos c10] at H
           (try (have c10b1 : decide ((rdOf false l0 x8_1) = (rdOf false l0 (ji7))) = false := by simpa using c10))
           (try (have c10b2 : ((rdOf false l0 x8_1) == (rdOf false l0 (ji7))) = false := by simpa using c10))
           (try (have c10b3 : ¬ ((rdOf false l0 x8_1) = (rdOf false l0 (ji7))) := by simpa using c10))
          |rw [if_neg c10] at H
           (try (have c10b1 : decide ((rdOf false l0 x8_1) = (rdOf false l0 (ji7))) = true := by simpa using c10))
           (try (have c10b2 : ((rdOf false l0 x8_1) == (rdOf false l0 (ji7))) = true := by simpa using c10))
          clear c10
          first
          |obtain rfl := bU H
          |have H' := aM H
           clear H
          have p250 : 0 ≤ (x8_1 : Int) := aJ (by (with_reducible assumption))
          have q250 : x8_1 < (l0.length : Int) := aJ (by (with_reducible assumption))
          obtain ⟨ad250, e250, hx250_0⟩ := Kd.at_bool HR0.out x8_1 p250 q250
          cases e250
          replace p250 := eq_true p250
          replace q250 := eq_true q250
          have p251 : 0 ≤ ((ji7) : Int) := aJ (by (with_reducible assumption))
          have q251 : (ji7) < (l0.length : Int) := aJ (by (with_reducible assumption))
          obtain ⟨ad251, e251, hx251_0⟩ := Kd.at_bool HR0.out (ji7) p251 q251
          obtain rfl : ad250 = ad251 := (by injection e251)
          replace p251 := eq_true p251
          replace q251 := eq_true q251
          go_wp2
          repeat (go_quiet (fail); try go_wp2)
          first
          |go_ret
           exact ⟨by first | rfl | (simp [*]; done), by repeat (first | exact Drawn0.refl _ | apply Drawn0.step)⟩
          |go_roundg k1
           case measure => have := HK1.out; omega
           case rel => exact ⟨(wrap64 (x8_1 + 1)), (by rfl), H', ⟨by have := HK1.out; omega⟩, by repeat (first | exact Drawn0.refl _ | apply Drawn0.step)⟩
        ·rw [if_neg c9] at H
         exact absurd H (by simp)
       ·rw [if_neg c8] at H
        exact absurd H (by simp)
     ·rw [if_neg c5] at H
      exact absurd H (by simp)
    ·rw [if_neg c4] at H
     exact absurd H (by simp)
   ·rw [if_neg c3] at H
    have c3b0 : decide (x8_1 < (l0.length : Int)) = false := aK c3
    clear c3
    by_cases c11 : a1 = 0
    ·rw [if_pos c11] at H
     exact absurd H (by simp)
    ·rw [if_neg c11] at H
     obtain rfl := bU H
     go_wp2
     repeat (go_quiet (fail); try go_wp2)
     go_ret
     exact ⟨by first | rfl | (simp [*]; done), by repeat (first | exact Drawn0.refl _ | apply Drawn0.step)⟩


/-- A copy. -/
def slices_Clone_bool_bool.f (l0 : List Bool) : Option (List Bool) := if l0.length < 140737488355328 then some l0 else none
set_option maxHeartbeats 1000000 in
set_option maxRecDepth 100000 in
theorem slices_Clone_bool_bool.calls (A0 : Option Addr) (c0 : Nat) (l0 : List Bool) (r : List Bool) (w : World) (hr0 : Kd.C Kd.bool w A0 l0.length l0) (hc0 : l0.length ≤ c0) (h : slices_Clone_bool_bool.f l0 = some r) :
  Calls Try.prog 79 #[.slice A0 l0.length c0] w fun e w' => ∃ v0_ : Value, e = .returned (v0_) ∧ Kd.R Kd.bool 4 w' w.heap.size (fun _ => True) v0_ r ∧ Below w.heap.size w w' := by
 unfold slices_Clone_bool_bool.f at h
 split at h
 case isFalse => cases h
 rename_i hs
 obtain rfl := bU h
 clear h
 have HR := Lib.hid hr0
 have hrun := Lib.run_eql_slice_nil (P := Try.prog) w 52 4 A0 l0.length c0 0 0 Try.underlying52
 have HC := Lib.hid (Kd.R_nil Kd.bool 4 w w.heap.size (fun _ => True))
 cases A0 with
 | none =>
  have hl : l0.length = 0 := by
   rcases Nat.eq_zero_or_pos l0.length with h | h
   ·exact h
   ·obtain ⟨ad, e, _⟩ := hr0.2.2 h
    cases e
  have hl2 : l0 = [] := List.length_eq_zero_iff.1 hl
  subst hl2
  clear hr0 hl
  simp only [List.length_nil, Option.isNone_none] at hrun
  rw [List.length_nil]
  go_enter Try.func79, Try.ntmps79
  go_wp2
  go_ret
  exact ⟨_, rfl, HC.out, cE _ _⟩
 | some ad =>
  clear hr0
  simp only [Option.isNone_some] at hrun
  go_enter Try.func79, Try.ntmps79
  go_wp2_with (first | ((with_reducible refine aZ (N := 5) rfl ?_); refine Kd.R_lit Kd.bool _ 4 ?hg (N := 5) ?hd (xs := ([] : List Bool)) (inner := []) (ok := fun _ => True) (okp := fun _ => True) ?hr ?hp (fun _ hk => hk) trivial (cE _ _) (cD _) (by simp) ?_; (case hd => rfl); (case hg => rfl); (case hr => first | (go_simp; done)); (case hp => exact (Reps.none _ _)); intro v102 w2 ho3 hb hg_ hnew_; clear hg_ hnew_; have HO := aM ho3; have HB := aM hb; clear ho3 hb) | ((with_reducible refine gate_builtin (b := .append) (xs := #[.tmp 5, .tmp 6]) rfl ?_); at_builtin; refine Kd.R_append_row Value.bool false (w0 := w) w.heap.size rfl (.tmp 5) (.tmp 6) 52 4 (.bool false) 1 rfl Try.underlying52 info4 rfl (by decide) _ [] l0 (some ad) l0.length c0 (fun _ => True) rfl rfl (fun _ _ => trivial) HO.out (bF HR.out HB.out) HB.out HB.out.size (by simp; omega) ?_; intro v103 w3 ho hb hg hat; clear hg hat HB HO; have HB := aM hb; have HO := aM ho; clear ho hb))
  go_ret
  exact ⟨_, rfl, HO.out, HB.out⟩
end Go.Proofs.Ytedhckahjinieaa.Q
