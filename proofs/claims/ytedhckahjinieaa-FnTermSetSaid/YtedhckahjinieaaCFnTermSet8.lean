/- A term tells its set; no condition beyond the statement's own. -/
import Derived.ArgAppend
import Derived.Below
import Derived.BigQuiet
import Derived.Deep.AppendLies
import Derived.Deep.CutBlock
import Derived.Deep.DeepCutAuto
import Derived.Deep.Draws
import Derived.Deep.LoopGhost
import Derived.Deep.OwnRows
import Derived.Deep.QuietTactic
import Derived.Deep.RegionHeld3
import Derived.KernelRfl
import Derived.Laws.BitsLemmas
import Derived.Laws.BytesArg
import Derived.Laws.IdiomCopy
import Derived.Laws.MakeOwn
import Derived.Laws.OwnMore
import Derived.Laws.Rows
import Derived.Laws.Slices
import Derived.Lib.AppendStr
import Derived.Lib.Builder
import Derived.Lib.Bytealg
import Derived.Lib.ConvBytes
import Derived.Lib.Hide
import Derived.Lib.Slices
import Derived.Lib.Strings
import Derived.Lib.UnsafeStr
import Derived.Lib.Walk
import Derived.LoopN
import Derived.Maps.AppendAt
import Derived.OrdersHeld
import Derived.OwnWalk
import Derived.RowKit
import Derived.RowKit3
import Derived.Tactics
import Derived.Test.YtedhckahjinieaaProg
import Derived.Laws.StructEq
import Derived.WalkKit
import Derived.WalkSpells
import Derived.WideLaws
import Derived.Test.YtedhckahjinieaaCFnTermSet2
import Derived.Test.YtedhckahjinieaaCFnTermSet5
import Derived.Test.YtedhckahjinieaaCFnTermSet6
import Derived.Test.YtedhckahjinieaaCFnTermSet7
namespace Go.Proofs.Ytedhckahjinieaa.Q
open Go.RowKit Go.Proofs.YtedhckahjinieaaW.PrintWords Go.Proofs.YtedhckahjinieaaW.PrintLast Go.Proofs.YtedhckahjinieaaW.PrintMore
theorem bN : type_of% @pw_below_drewN := @pw_below_drewN
theorem b1 : type_of% @below_drew1 := @below_drew1
theorem bA : type_of% @below_alloc := @below_alloc
theorem bS : type_of% @below_set := @below_set
theorem kA : type_of% @blk_alloc := @blk_alloc
theorem kN : type_of% @blk_drewN := @blk_drewN
theorem kD : type_of% @blk_drew := @blk_drew
theorem rN : type_of% @Kd.R_drewN := @Kd.R_drewN
theorem rA : type_of% @Kd.R_alloc := @Kd.R_alloc
theorem rD : type_of% @Kd.R_drew := @Kd.R_drew
theorem vN : type_of% @Kd.V_drewN := @Kd.V_drewN
theorem vD : type_of% @Kd.V_drew := @Kd.V_drew
theorem sA : type_of% @List.setIfInBounds_toArray := @List.setIfInBounds_toArray
theorem sZ : type_of% @List.set_cons_zero := @List.set_cons_zero
theorem sS : type_of% @List.set_cons_succ := @List.set_cons_succ
theorem aM : type_of% @Aside0.mk := @Aside0.mk
theorem aA : type_of% @blk_cell := @blk_cell
theorem aC : type_of% @blk_frozen := @blk_frozen
theorem aD : type_of% @blk_below := @blk_below
theorem aE : type_of% @below_step := @below_step
theorem aG : type_of% @below_size := @below_size
theorem aH : type_of% @decide_eq_true := @decide_eq_true
theorem aJ : type_of% @of_decide_eq_true := @of_decide_eq_true
theorem aK : type_of% @decide_eq_false := @decide_eq_false
theorem aN : type_of% @List.map_toArray := @List.map_toArray
theorem aQ : type_of% @List.map_cons := @List.map_cons
theorem aT : type_of% @List.map_nil := @List.map_nil
theorem aV : type_of% @Option.some.injEq := @Option.some.injEq
theorem aW : type_of% @Prod.mk.injEq := @Prod.mk.injEq
theorem aY : type_of% @gate_callee := @gate_callee
theorem aZ : type_of% @gate_dst := @gate_dst
theorem bB : type_of% @box_event := @box_event
theorem bC : type_of% @Kd.R_far := @Kd.R_far
theorem bD : type_of% @Kd.V_far := @Kd.V_far
theorem bE : type_of% @Kd.R_types := @Kd.R_types
theorem bF : type_of% @Kd.C_below := @Kd.C_below
theorem bG : type_of% @Kd.R_below := @Kd.R_below
theorem bH : type_of% @Kd.V_below := @Kd.V_below
theorem bJ : type_of% @Kd.R_mono := @Kd.R_mono
theorem bK : type_of% @Kd.V_mono := @Kd.V_mono
theorem bL : type_of% @Kd.R_slice := @Kd.R_slice
theorem bM : type_of% @Kd.R_reads' := @Kd.R_reads'
theorem bP : type_of% @Kd.R_lower := @Kd.R_lower
theorem bQ : type_of% @Kd.V_lower := @Kd.V_lower
theorem bR : type_of% @Option.bind_some := @Option.bind_some
theorem bU : type_of% @Option.some.inj := @Option.some.inj
theorem bV : type_of% @blk_put := @blk_put
theorem bW : type_of% @World.size_alloc := @World.size_alloc
theorem bX : type_of% @Bool.false_eq_true := @Bool.false_eq_true
theorem bZ : type_of% @putSel_upk := @putSel_upk
theorem cA : type_of% @putSel_on := @putSel_on
theorem cB : type_of% @putSel_off := @putSel_off
theorem cC : type_of% @of_eq_true := @of_eq_true
theorem cD : type_of% @Nat.le_refl := @Nat.le_refl
theorem cE : type_of% @Below.refl := @Below.refl
theorem cF : type_of% @bodyPost_ret := @bodyPost_ret
theorem cG : type_of% @results_ct := @results_ct
theorem cH : type_of% @Kd.R_keep := @Kd.R_keep
theorem cJ : type_of% @Kd.R_after := @Kd.R_after
theorem cK : type_of% @KeepBut.trans := @KeepBut.trans
theorem cL : type_of% @blk_far := @blk_far
theorem cM : type_of% @blk_set := @blk_set
theorem cN : type_of% @pw_cell_below := @pw_cell_below
theorem cP : type_of% @Kd.C_of_reads := @Kd.C_of_reads
theorem cQ : type_of% @Kd.R_form := @Kd.R_form
theorem cR : type_of% @Kd.at_string := @Kd.at_string
theorem cS : type_of% @i64_w := @i64_w
theorem cT : type_of% @i32_w := @i32_w
section
variable {P : Program} {md : Region.Mode} {ops : Array Oper} {Q : Exit → Act → World → Prop} {S : World → Prop} {ds : List Nat}
theorem pQ (i K : Nat) {T : Bool × List (List Nat × List Nat)} {oi : Oper} {v : Value} {fuel : Nat} {l : Array Bool} {a a' : Act} {w : World} (hT : Aside0 (rtab md ops = T)) (h : wpAnyLast P md ops Q S ds fuel (l.setIfInBounds i true) a' w)
  (hi : ops[i]? = some oi := by rfl) (hN : oi.dst = some K := by rfl) (hc : anyT T l.toList (l.setIfInBounds i true).toList i = true := by kernel_rfl) (hw : Region.wanted oi (yielded ops a.tmps) = true := by rfl)
  (hy : ∀ w', (execOp a.eval oi).run P w' = .ok (.value v) w' := by intro w'; go_simp; with_reducible rfl)
  (ha : a.put (some K) v = a' := by simp only [Act.put, List.setIfInBounds_toArray, List.set_cons_zero, List.set_cons_succ, i64_w, i32_w]; rfl)
  (hQ : ∀ c a w, Q (.panic c) (a.put oi.dst v) w → Q (.panic c) a w := by exact fun _ _ _ h => h) : wpAnyLast P md ops Q S ds (fuel + 1) l a w := pure_ _ hi hN (any_of hT.out hc) hQ (Or.inl ⟨hw, hy⟩) ha h
theorem uQ (i K : Nat) {T : Bool × List (List Nat × List Nat)} {oi : Oper} {fuel : Nat} {l : Array Bool} {a a' : Act} {w : World} (hT : Aside0 (rtab md ops = T)) (h : wpAnyLast P md ops Q S ds fuel (l.setIfInBounds i true) a' w)
  (hi : ops[i]? = some oi := by rfl) (hN : oi.dst = some K := by rfl) (hc : anyT T l.toList (l.setIfInBounds i true).toList i = true := by kernel_rfl) (hw : Region.wanted oi (yielded ops a.tmps) = false := by rfl)
  (ha : a.put (some K) undef = a' := by simp only [Act.put, List.setIfInBounds_toArray, List.set_cons_zero, List.set_cons_succ, i64_w, i32_w]; rfl)
  (hQ : ∀ c a w, Q (.panic c) (a.put oi.dst undef) w → Q (.panic c) a w := by exact fun _ _ _ h => h) : wpAnyLast P md ops Q S ds (fuel + 1) l a w := pure_ _ hi hN (any_of hT.out hc) hQ (Or.inr ⟨hw, rfl⟩) ha h
theorem tQ (i K : Nat) {T : Bool × List (List Nat × List Nat)} {B : List Nat} {oi : Oper} {v : Value} {fuel : Nat} {l : Array Bool} {a a' : Act} {w : World} (hT : Aside0 (rtab md ops = T)) (hB : Aside0 (waitsOk T.2 B = true)) (hS : S w) (h : wpAnyLast P md ops Q S ds fuel (l.setIfInBounds i true) a' w)
  (hi : ops[i]? = some oi := by rfl) (hN : oi.dst = some K := by rfl) (hc : takeW T B ds l.toList (l.setIfInBounds i true).toList i = true := by kernel_rfl) (hw : Region.wanted oi (yielded ops a.tmps) = true := by rfl)
  (hy : ∀ w', S w' → (execOp a.eval oi).run P w' = .ok (.value v) w' := by intro w' h_; (try dsimp only at h_); repeat (obtain ⟨_, h_⟩ : _ ∧ _ := h_); go_simp; with_reducible rfl)
  (ha : a.put (some K) v = a' := by simp only [Act.put, List.setIfInBounds_toArray, List.set_cons_zero, List.set_cons_succ, i64_w, i32_w]; rfl)
  (hQ : ∀ c a w, Q (.panic c) (a.put oi.dst v) w → Q (.panic c) a w := by exact fun _ _ _ h => h) : wpAnyLast P md ops Q S ds (fuel + 1) l a w := take_ _ hi hN (take_ofW hT.out hB.out hc) hQ (Or.inl ⟨hw, hy⟩) hS ha h
theorem oQ (i N_ : Nat) {T : Bool × List (List Nat × List Nat)} {oi : Oper} {fuel : Nat} {l : Array Bool} {a : Act} {w : World} (hT : Aside0 (rtab md ops = T))
  (h : ∀ K : Act → World → Prop, Shut (∀ a' w', S w' → (S w' → wpAnyLast P md ops Q S ds fuel (l.setIfInBounds i true) a' w') → K a' w') → if Region.wanted oi (yielded ops a.tmps) = true then Oper.wp P oi a w K Q else K (a.put (some N_) undef) w)
  (hi : ops[i]? = some oi := by rfl) (hN : oi.dst = some N_ := by rfl) (hc : (readyT T.2 l.toList == [i] && l.toList.set i true == (l.setIfInBounds i true).toList) = true := by kernel_rfl) (hd : i ∉ ds := by decide) : wpAnyLast P md ops Q S ds (fuel + 1) l a w := one_ _ hi hN (one_of hT.out hc) hd h
theorem gL {rest : List Oper} {oi : Oper} {a : Act} {w : World} {f : FuncId} {fn : Func} {ars : Array Operand} {ts : Array TypeId} (N : Nat) (hf : P.funcs[f]? = some fn) (args : Array Value) (h : Calls P f args w fun e w' => ∃ v, e = .returned v ∧ wpList P ops Q rest (a.put (some N) v) w')
  (hd : oi.dst = some N := by rfl) (hg : oi.guard = none := by rfl) (hname : (fn.name == "runtime.NumGoroutine") = false := by kernel_rfl) (hb : fn.body.isSome = true := by rfl) (hop : oi.op = .call { callee := .value (.func f), args := ars, argTypes := ts } := by rfl)
  (hargs : ars.map a.eval = args := by (try simp only [List.map_toArray, List.map_cons, List.map_nil]); first | done | rfl) : wpList P ops Q (oi :: rest) a w := goesL_ _ hd hg hf hname hb args hop hargs h
theorem gO {oi : Oper} {N : Option Tmp} {a : Act} {w : World} {K : Act → World → Prop} {f : FuncId} {fn : Func} {ars : Array Operand} {ts : Array TypeId} (hf : P.funcs[f]? = some fn) (args : Array Value) (h : Calls P f args w fun e w' => ∃ v, e = .returned v ∧ K (a.put N v) w')
  (hname : (fn.name == "runtime.NumGoroutine") = false := by kernel_rfl) (hb : fn.body.isSome = true := by rfl) (hw : Region.wanted oi (yielded ops a.tmps) = true := by rfl) (hN : oi.dst = N := by rfl) (hop : oi.op = .call { callee := .value (.func f), args := ars, argTypes := ts } := by rfl)
  (hargs : ars.map a.eval = args := by (try simp only [List.map_toArray, List.map_cons, List.map_nil]); first | done | rfl) : if Region.wanted oi (yielded ops a.tmps) = true then Oper.wp P oi a w K Q else K (a.put N undef) w := goes_ hf hname hb args hw hN hop hargs h
theorem nQ {fuel : Nat} {l : Array Bool} {a a' : Act} {w : World} (h : wpAnyLast P md ops Q S ds fuel l a' w) (ha : a = a' := by show Act.put _ (some _) _ = _; simp only [Act.put, List.setIfInBounds_toArray, List.set_cons_zero, List.set_cons_succ, i64_w, i32_w]; rfl) : wpAnyLast P md ops Q S ds fuel l a w := norm_ ha h
end
end Go.Proofs.Ytedhckahjinieaa.Q

namespace Go.Proofs.Ytedhckahjinieaa.Q
open Go.RowKit Go.Proofs.YtedhckahjinieaaW.PrintWords Go.Proofs.YtedhckahjinieaaW.PrintLast Go.Proofs.YtedhckahjinieaaW.PrintMore
attribute [local go_sem] max2_int max_two
set_option linter.unusedVariables false
set_option linter.unusedSimpArgs false
def errW : Option Int → Value
 | none => .nilIface
 | some c => .iface 0 (.int .i64 c)
theorem errW_none : errW none = .nilIface := rfl
theorem errW_some (c : Int) : errW (some c) = .iface 0 (.int .i64 c) := rfl

theorem info3 : (Try.prog.info? 3).map (fun i => (i.zero, i.size, i.bytes)) = some (some (.int .i64 0), 1, 8) := by kernel_rfl
theorem info4 : (Try.prog.info? 4).map (fun i => (i.zero, i.size, i.bytes)) = some (some (.bool false), 1, 1) := by kernel_rfl
theorem info5 : (Try.prog.info? 5).map (fun i => (i.zero, i.size, i.bytes)) = some (some (.int .u8 0), 1, 1) := by kernel_rfl
structure S49 where
 f0 : Int
 f1 : (List S49)
def z49 : S49 := ⟨(0 : Int), ([] : List S49)⟩
def F49 (d : Kd S49) : Kd S49 := Kd.iso (Kd.pair (Kd.int .u8) (Kd.slice 49 d)) (fun x : S49 => (x.f0, x.f1))
theorem mono49 : Kd.Mono F49 := Kd.mono_iso _ (Kd.mono_pair (Kd.mono_const _) (Kd.mono_slice 49 Kd.mono_id))
theorem sub49 : Kd.Sub F49 [49] := Kd.sub_iso _ (Kd.sub_pair (Kd.sub_const _ (by decide)) (Kd.sub_slice 49 (by decide) Kd.sub_id))
theorem sz49 : ∀ n, (Kd.upto F49 2 [49] n).sz = 2 := Kd.upto_sz (fun _ => rfl)
def k49 : Kd S49 := Kd.fix F49 2 [49] sz49 (Kd.upto_E sub49)
theorem k49_open {w : World} {x : S49} {cs : List Value} (h : k49.K w x cs) : ∃ A1 c1, cs = [.int .u8 x.f0, .slice A1 x.f1.length c1] ∧ x.f1.length ≤ c1 ∧ k49.C w A1 x.f1.length x.f1 := by
 obtain ⟨n, h⟩ := h
 cases n with
 | zero => exact h.elim
 | succ n =>
  obtain ⟨_, _, rfl, rfl, ⟨A1, c1, rfl, l1, g1⟩⟩ := h
  exact ⟨A1, c1, rfl, l1, Kd.fix_C g1⟩
theorem k49_mk (w : World) (x : S49) {A1 : Option Addr} {c1 : Nat} (l1 : x.f1.length ≤ c1) (g1 : k49.C w A1 x.f1.length x.f1) : k49.K w x [.int .u8 x.f0, .slice A1 x.f1.length c1] := by
 obtain ⟨n1, q1⟩ := Kd.fix_C_back mono49 g1
 have r1 := Kd.upto_C_le mono49 sz49 (show n1 ≤ n1 by omega) q1
 exact ⟨n1 + 1, ⟨[.int .u8 x.f0], [.slice A1 x.f1.length c1], rfl, rfl, ⟨A1, c1, rfl, l1, r1⟩⟩⟩
def rd_T49 (xs : List S49) (i : Int) : S49 := xs.getD i.toNat z49
theorem at_T49 {w : World} {A : Option Addr} {n : Nat} {xs : List S49} (h : Kd.C k49 w A n xs) (i : Int) (h0 : 0 ≤ i) (h1 : i < n) : ∃ ad A1 c1, A = some ad ∧ w.cell? (ad.add (i.toNat * 2)) = some (.int .u8 (rd_T49 xs i).f0) ∧ w.cell? ⟨(ad.add (i.toNat * 2)).block, (ad.add (i.toNat * 2)).off + 1, none⟩ = some (.slice A1 (rd_T49 xs i).f1.length c1) ∧ (rd_T49 xs i).f1.length ≤ c1 ∧ k49.C w A1 (rd_T49 xs i).f1.length (rd_T49 xs i).f1 := by
 obtain ⟨ad, c, e, _, hK, hc0⟩ := Kd.C_get h z49 i h0 h1
 have hc : ∀ j u, c[j]? = some u → w.cell? (ad.add (i.toNat * 2 + j)) = some u := hc0
 obtain ⟨A1, c1, rfl, l1, g1⟩ := k49_open hK
 exact ⟨ad, A1, c1, e, hc 0 _ rfl, by rw [← add_field _ _ 1 (by omega)]; exact hc 1 _ rfl, l1, g1⟩


def impl_in.f (a0 : Int) (a1 : Int) (a2 : Int) : Option (Bool) := if a0 ≥ a1 then (some (decide (a0 ≤ a2))) else (some false)
set_option maxHeartbeats 8000000 in
set_option maxRecDepth 100000 in
theorem impl_in.calls (a0 : Int) (a1 : Int) (a2 : Int) (r : Bool) (w : World) (h : impl_in.f a0 a1 a2 = some r) :
  Calls Try.prog 26 #[.int .i64 a0, .int .i64 a1, .int .i64 a2] w fun e w' => e = .returned (.bool r) ∧ Drawn0 w w' := by
 have H : (if a0 ≥ a1 then (some (decide (a0 ≤ a2))) else (some false)) = some r := h
 clear h
 by_cases c4 : a0 ≥ a1
 ·rw [if_pos c4] at H
  have c4b0 : decide (a1 ≤ a0) = true := aH c4
  clear c4
  obtain rfl := bU H
  go_enter Try.func26, Try.ntmps26
  go_wp2
  go_ret
  exact ⟨by first | rfl | (simp [*]; done), by repeat (exact Drawn0.refl _)⟩
 ·rw [if_neg c4] at H
  have c4b0 : decide (a1 ≤ a0) = false := aK c4
  clear c4
  obtain rfl := bU H
  go_enter Try.func26, Try.ntmps26
  go_wp2
  go_ret
  exact ⟨by first | rfl | (simp [*]; done), by repeat (exact Drawn0.refl _)⟩


/-- Index at a separator of one byte (of others nothing is told). -/
def stringslite_Index.f (a0 a1 : ByteArray) : Option Int := if h : a1.size = 1 then some (Lib.indexByte a0.data.toList (a1[0]'(by omega))) else none
theorem stringslite_Index.one (a1 : ByteArray) (h : a1.size = 1) : a1 = ⟨#[a1[0]'(by omega)]⟩ := by
 obtain ⟨⟨l⟩⟩ := a1
 match l, h with
 | [c], _ => rfl
set_option maxHeartbeats 2000000 in
set_option maxRecDepth 100000 in
theorem stringslite_Index.calls_one (s : ByteArray) (c : UInt8) (w : World) :
  Calls Try.prog 89 #[.string s, .string ⟨#[c]⟩] w fun e w' => e = .returned (.int .i64 (Lib.indexByte s.data.toList c)) ∧ Drawn0 w w' := by
 have hx : ∀ (t : ByteArray) (d : UInt8) (w1 : World), Calls Try.prog 100 #[.string t, .int .u8 d.toNat] w1 fun e w' => e = .returned (.int .i64 (Lib.indexByte t.data.toList d)) ∧ w' = w1 := by
  intro t d w1
  go_enter Try.func100, Try.ntmps100
  go_wp2
  rw [run_callFunc_extern Try.func108 (by kernel_rfl) (by kernel_rfl) (by kernel_rfl) (e := Extern.BytealgIndexByte.indexByte) (by kernel_rfl), Lib.run_indexByteString]
  simp only [Result.andThen]
  rw [Oper.upon_value]
  go_wp2
  go_ret
  exact ⟨by simp, rfl⟩
 go_enter Try.func89, Try.ntmps89
 go_wp2_with (go_at_call 100; refine (hx _ _ _).mono ?_; rintro e w' ⟨rfl, rfl⟩)
 ·have h : ([c] == s.toList) = true := by assumption
  go_ret
  refine ⟨?_, Drawn0.refl _⟩
  have e : s.data.toList = [c] := by rw [← Lib.toList_data]; exact (beq_iff_eq.1 h).symm
  rw [e]
  simp [Lib.indexByte]
 ·go_ret
  exact ⟨rfl, Drawn0.refl _⟩
theorem stringslite_Index.calls (a0 : ByteArray) (a1 : ByteArray) (r : Int) (w : World) (h : stringslite_Index.f a0 a1 = some r) :
  Calls Try.prog 89 #[.string a0, .string a1] w fun e w' => e = .returned (.int .i64 r) ∧ Drawn0 w w' := by
 unfold stringslite_Index.f at h
 split at h
 ·rename_i h1
  obtain rfl := bU h
  have e1 := stringslite_Index.one a1 h1
  have := stringslite_Index.calls_one a0 (a1[0]'(by omega)) w
  rw [← e1] at this
  exact this
 ·cases h

def strings_Index.f (a0 : ByteArray) (a1 : ByteArray) : Option (Int) := (stringslite_Index.f a0 a1).bind fun t173 => (some t173)
set_option maxHeartbeats 8000000 in
set_option maxRecDepth 100000 in
theorem strings_Index.calls (a0 : ByteArray) (a1 : ByteArray) (r : Int) (w : World) (h : strings_Index.f a0 a1 = some r) :
  Calls Try.prog 82 #[.string a0, .string a1] w fun e w' => e = .returned (.int .i64 r) ∧ Drawn0 w w' := by
 have H : ((stringslite_Index.f a0 a1).bind fun t173 => (some t173)) = some r := h
 clear h
 replace H := Option.bind_eq_some_iff.mp H
 obtain ⟨t173, A30, H⟩ := H
 replace H : (some t173) = some r := H
 have A3 := aM A30
 clear A30
 obtain rfl := bU H
 go_enter Try.func82, Try.ntmps82
 go_wp2_with (first | ((with_reducible refine aY (f := 89) rfl ?_); refine gL 7 Try.func89 #[.string a0, .string a1] ?_; (with_reducible refine (stringslite_Index.calls a0 a1 t173 _ A3.out).mono ?_); rintro e w' ⟨rfl, ⟨nd, rfl⟩⟩; refine ⟨_, rfl, ?_⟩))
 go_ret
 exact ⟨by first | rfl | (simp [*]; done), by repeat (first | exact Drawn0.refl _ | apply Drawn0.step)⟩


def strings_Contains.f (a0 : ByteArray) (a1 : ByteArray) : Option (Bool) := (strings_Index.f a0 a1).bind fun t174 => (some (decide (t174 ≥ 0)))
set_option maxHeartbeats 8000000 in
set_option maxRecDepth 100000 in
theorem strings_Contains.calls (a0 : ByteArray) (a1 : ByteArray) (r : Bool) (w : World) (h : strings_Contains.f a0 a1 = some r) :
  Calls Try.prog 61 #[.string a0, .string a1] w fun e w' => e = .returned (.bool r) ∧ Drawn0 w w' := by
 have H : ((strings_Index.f a0 a1).bind fun t174 => (some (decide (t174 ≥ 0)))) = some r := h
 clear h
 replace H := Option.bind_eq_some_iff.mp H
 obtain ⟨t174, A30, H⟩ := H
 replace H : (some (decide (t174 ≥ 0))) = some r := H
 have A3 := aM A30
 clear A30
 obtain rfl := bU H
 go_enter Try.func61, Try.ntmps61
 go_wp2_with (first | ((with_reducible refine aY (f := 82) rfl ?_); refine gL 7 Try.func82 #[.string a0, .string a1] ?_; (with_reducible refine (strings_Index.calls a0 a1 t174 _ A3.out).mono ?_); rintro e w' ⟨rfl, ⟨nd, rfl⟩⟩; refine ⟨_, rfl, ?_⟩))
 go_ret
 exact ⟨by first | rfl | (simp [*]; done), by repeat (first | exact Drawn0.refl _ | apply Drawn0.step)⟩


def stringslite_Cut.f (a0 : ByteArray) (a1 : ByteArray) : Option (ByteArray × ByteArray × Bool) := (stringslite_Index.f a0 a1).bind fun t229 => (if t229 ≥ 0 then (if 0 ≤ t229 then (if t229 ≤ (a0.size : Int) then (if 0 ≤ (wrap64 (t229 + (a1.size : Int))) then (if (wrap64 (t229 + (a1.size : Int))) ≤ (a0.size : Int) then (some (a0.extract 0 (t229 : Int).toNat, a0.extract ((wrap64 (t229 + (a1.size : Int))) : Int).toNat a0.size, true)) else (none)) else (none)) else (none)) else (none)) else (some (a0, (⟨#[]⟩ : ByteArray), false)))
set_option maxHeartbeats 8000000 in
set_option maxRecDepth 100000 in
theorem stringslite_Cut.calls (a0 : ByteArray) (a1 : ByteArray) (r1 : ByteArray) (r2 : ByteArray) (r3 : Bool) (w : World) (h : stringslite_Cut.f a0 a1 = some (r1, r2, r3)) :
  Calls Try.prog 72 #[.string a0, .string a1] w fun e w' => e = .returned (.tuple #[.string r1, .string r2, .bool r3]) ∧ Drawn0 w w' := by
 have H : ((stringslite_Index.f a0 a1).bind fun t229 => (if t229 ≥ 0 then (if 0 ≤ t229 then (if t229 ≤ (a0.size : Int) then (if 0 ≤ (wrap64 (t229 + (a1.size : Int))) then (if (wrap64 (t229 + (a1.size : Int))) ≤ (a0.size : Int) then (some (a0.extract 0 (t229 : Int).toNat, a0.extract ((wrap64 (t229 + (a1.size : Int))) : Int).toNat a0.size, true)) else (none)) else (none)) else (none)) else (none)) else (some (a0, (⟨#[]⟩ : ByteArray), false)))) = some (r1, r2, r3) := h
 clear h
 replace H := Option.bind_eq_some_iff.mp H
 obtain ⟨t229, A30, H⟩ := H
 replace H : (if t229 ≥ 0 then (if 0 ≤ t229 then (if t229 ≤ (a0.size : Int) then (if 0 ≤ (wrap64 (t229 + (a1.size : Int))) then (if (wrap64 (t229 + (a1.size : Int))) ≤ (a0.size : Int) then (some (a0.extract 0 (t229 : Int).toNat, a0.extract ((wrap64 (t229 + (a1.size : Int))) : Int).toNat a0.size, true)) else (none)) else (none)) else (none)) else (none)) else (some (a0, (⟨#[]⟩ : ByteArray), false))) = some (r1, r2, r3) := H
 have A3 := aM A30
 clear A30
 by_cases c4 : t229 ≥ 0
 ·rw [if_pos c4] at H
  have c4b0 : decide (0 ≤ t229) = true := aH c4
  clear c4
  by_cases c5 : 0 ≤ t229
  ·rw [if_pos c5] at H
   have c5b0 := eq_true c5
   have c5b1 : decide (0 ≤ t229) = true := aH c5
   clear c5
   by_cases c6 : t229 ≤ (a0.size : Int)
   ·rw [if_pos c6] at H
    have c6b0 := eq_true c6
    clear c6
    obtain ⟨ji7, hji7⟩ : ∃ j_ : Int, (wrap64 (t229 + (a1.size : Int))) = j_ := ⟨_, rfl⟩
    replace H : (if 0 ≤ (ji7) then (if (ji7) ≤ (a0.size : Int) then (some (a0.extract 0 (t229 : Int).toNat, a0.extract ((ji7) : Int).toNat a0.size, true)) else (none)) else (none)) = some (r1, r2, r3) := by first | (rw [hji7] at H; exact H)
    have hji7w : (IntKind.i64.wrap (t229 + (a1.size : Int))) = ji7 := (cS _).trans hji7
    by_cases c8 : 0 ≤ (ji7)
    ·rw [if_pos c8] at H
     have c8b0 := eq_true c8
     have c8b1 : decide (0 ≤ (ji7)) = true := aH c8
     clear c8
     by_cases c9 : (ji7) ≤ (a0.size : Int)
     ·rw [if_pos c9] at H
      have c9b0 := eq_true c9
      clear c9
      simp only [aV, aW] at H
      obtain ⟨rfl, rfl, rfl⟩ := H
      go_enter Try.func72, Try.ntmps72
      go_wp2_with (first | (go_at_call 89; (with_reducible refine (stringslite_Index.calls a0 a1 t229 _ A3.out).mono ?_); rintro e w' ⟨rfl, ⟨nd, rfl⟩⟩))
      repeat (go_quiet (fail); try go_wp2_with (fail))
      go_ret3
      exact ⟨by first | rfl | (simp [*]; done), by repeat (first | exact Drawn0.refl _ | apply Drawn0.step)⟩
     ·rw [if_neg c9] at H
      exact absurd H (by simp)
    ·rw [if_neg c8] at H
     exact absurd H (by simp)
   ·rw [if_neg c6] at H
    exact absurd H (by simp)
  ·rw [if_neg c5] at H
   exact absurd H (by simp)
 ·rw [if_neg c4] at H
  have c4b0 : decide (0 ≤ t229) = false := aK c4
  clear c4
  simp only [aV, aW] at H
  obtain ⟨rfl, rfl, rfl⟩ := H
  go_enter Try.func72, Try.ntmps72
  go_wp2_with (first | (go_at_call 89; (with_reducible refine (stringslite_Index.calls a0 a1 t229 _ A3.out).mono ?_); rintro e w' ⟨rfl, ⟨nd, rfl⟩⟩))
  repeat (go_quiet (fail); try go_wp2_with (fail))
  go_ret3
  exact ⟨by first | rfl | (simp [*]; done), by repeat (first | exact Drawn0.refl _ | apply Drawn0.step)⟩


def strings_Cut.f (a0 : ByteArray) (a1 : ByteArray) : Option (ByteArray × ByteArray × Bool) := (stringslite_Cut.f a0 a1).bind fun bt230 => (some (bt230.1, bt230.2.1, bt230.2.2))
set_option maxHeartbeats 8000000 in
set_option maxRecDepth 100000 in
theorem strings_Cut.calls (a0 : ByteArray) (a1 : ByteArray) (r1 : ByteArray) (r2 : ByteArray) (r3 : Bool) (w : World) (h : strings_Cut.f a0 a1 = some (r1, r2, r3)) :
  Calls Try.prog 51 #[.string a0, .string a1] w fun e w' => e = .returned (.tuple #[.string r1, .string r2, .bool r3]) ∧ Drawn0 w w' := by
 have H : ((stringslite_Cut.f a0 a1).bind fun bt230 => (some (bt230.1, bt230.2.1, bt230.2.2))) = some (r1, r2, r3) := h
 clear h
 replace H := Option.bind_eq_some_iff.mp H
 obtain ⟨⟨t230, t231, t232⟩, A30, H⟩ := H
 replace H : (some (t230, t231, t232)) = some (r1, r2, r3) := H
 have A3 := aM A30
 clear A30
 simp only [aV, aW] at H
 obtain ⟨rfl, rfl, rfl⟩ := H
 go_enter Try.func51, Try.ntmps51
 go_wp2_with (first | ((with_reducible refine aY (f := 72) rfl ?_); refine gL 9 Try.func72 #[.string a0, .string a1] ?_; (with_reducible refine (stringslite_Cut.calls a0 a1 t230 t231 t232 _ A3.out).mono ?_); rintro e w' ⟨rfl, ⟨nd, rfl⟩⟩; refine ⟨_, rfl, ?_⟩))
 go_ret3
 exact ⟨by first | rfl | (simp [*]; done), by repeat (first | exact Drawn0.refl _ | apply Drawn0.step)⟩


def stringslite_HasSuffix.f (a0 : ByteArray) (a1 : ByteArray) : Option (Bool) := if (a0.size : Int) ≥ (a1.size : Int) then (if 0 ≤ (wrap64 ((a0.size : Int) - (a1.size : Int))) then (if (wrap64 ((a0.size : Int) - (a1.size : Int))) ≤ (a0.size : Int) then (some ((a0.extract ((wrap64 ((a0.size : Int) - (a1.size : Int))) : Int).toNat a0.size).toList == a1.toList)) else (none)) else (none)) else (some false)
set_option maxHeartbeats 8000000 in
set_option maxRecDepth 100000 in
theorem stringslite_HasSuffix.calls (a0 : ByteArray) (a1 : ByteArray) (r : Bool) (w : World) (h : stringslite_HasSuffix.f a0 a1 = some r) :
  Calls Try.prog 90 #[.string a0, .string a1] w fun e w' => e = .returned (.bool r) ∧ Drawn0 w w' := by
 have H : (if (a0.size : Int) ≥ (a1.size : Int) then (if 0 ≤ (wrap64 ((a0.size : Int) - (a1.size : Int))) then (if (wrap64 ((a0.size : Int) - (a1.size : Int))) ≤ (a0.size : Int) then (some ((a0.extract ((wrap64 ((a0.size : Int) - (a1.size : Int))) : Int).toNat a0.size).toList == a1.toList)) else (none)) else (none)) else (some false)) = some r := h
 clear h
 by_cases c3 : (a0.size : Int) ≥ (a1.size : Int)
 ·rw [if_pos c3] at H
  have c3b1 : decide (a1.size ≤ a0.size) = true := aH (Int.ofNat_le.mp c3)
  clear c3
  obtain ⟨ji4, hji4⟩ : ∃ j_ : Int, (wrap64 ((a0.size : Int) - (a1.size : Int))) = j_ := ⟨_, rfl⟩
  replace H : (if 0 ≤ (ji4) then (if (ji4) ≤ (a0.size : Int) then (some ((a0.extract ((ji4) : Int).toNat a0.size).toList == a1.toList)) else (none)) else (none)) = some r := by first | (rw [hji4] at H; exact H)
  have hji4w : (IntKind.i64.wrap ((a0.size : Int) - (a1.size : Int))) = ji4 := (cS _).trans hji4
  by_cases c5 : 0 ≤ (ji4)
  ·rw [if_pos c5] at H
   have c5b0 := eq_true c5
   have c5b1 : decide (0 ≤ (ji4)) = true := aH c5
   clear c5
   by_cases c6 : (ji4) ≤ (a0.size : Int)
   ·rw [if_pos c6] at H
    have c6b0 := eq_true c6
    clear c6
    obtain rfl := bU H
    go_enter Try.func90, Try.ntmps90
    go_wp2
    go_ret
    exact ⟨by first | rfl | (simp [*]; done), by repeat (exact Drawn0.refl _)⟩
   ·rw [if_neg c6] at H
    exact absurd H (by simp)
  ·rw [if_neg c5] at H
   exact absurd H (by simp)
 ·rw [if_neg c3] at H
  have c3b1 : decide (a1.size ≤ a0.size) = false := aK (fun h => c3 (Int.ofNat_le.mpr h))
  clear c3
  obtain rfl := bU H
  go_enter Try.func90, Try.ntmps90
  go_wp2
  go_ret
  exact ⟨by first | rfl | (simp [*]; done), by repeat (exact Drawn0.refl _)⟩


def stringslite_CutSuffix.f (a0 : ByteArray) (a1 : ByteArray) : Option (ByteArray × Bool) := (stringslite_HasSuffix.f a0 a1).bind fun t233 => (if t233 = true then (if 0 ≤ (wrap64 ((a0.size : Int) - (a1.size : Int))) then (if (wrap64 ((a0.size : Int) - (a1.size : Int))) ≤ (a0.size : Int) then (some (a0.extract 0 ((wrap64 ((a0.size : Int) - (a1.size : Int))) : Int).toNat, true)) else (none)) else (none)) else (some (a0, false)))
set_option maxHeartbeats 8000000 in
set_option maxRecDepth 100000 in
theorem stringslite_CutSuffix.calls (a0 : ByteArray) (a1 : ByteArray) (r1 : ByteArray) (r2 : Bool) (w : World) (h : stringslite_CutSuffix.f a0 a1 = some (r1, r2)) :
  Calls Try.prog 73 #[.string a0, .string a1] w fun e w' => e = .returned (.tuple #[.string r1, .bool r2]) ∧ Drawn0 w w' := by
 have H : ((stringslite_HasSuffix.f a0 a1).bind fun t233 => (if t233 = true then (if 0 ≤ (wrap64 ((a0.size : Int) - (a1.size : Int))) then (if (wrap64 ((a0.size : Int) - (a1.size : Int))) ≤ (a0.size : Int) then (some (a0.extract 0 ((wrap64 ((a0.size : Int) - (a1.size : Int))) : Int).toNat, true)) else (none)) else (none)) else (some (a0, false)))) = some (r1, r2) := h
 clear h
 replace H := Option.bind_eq_some_iff.mp H
 obtain ⟨t233, A30, H⟩ := H
 replace H : (if t233 = true then (if 0 ≤ (wrap64 ((a0.size : Int) - (a1.size : Int))) then (if (wrap64 ((a0.size : Int) - (a1.size : Int))) ≤ (a0.size : Int) then (some (a0.extract 0 ((wrap64 ((a0.size : Int) - (a1.size : Int))) : Int).toNat, true)) else (none)) else (none)) else (some (a0, false))) = some (r1, r2) := H
 have A3 := aM A30
 clear A30
 by_cases c4 : t233 = true
 ·subst c4
  replace H : (if 0 ≤ (wrap64 ((a0.size : Int) - (a1.size : Int))) then (if (wrap64 ((a0.size : Int) - (a1.size : Int))) ≤ (a0.size : Int) then (some (a0.extract 0 ((wrap64 ((a0.size : Int) - (a1.size : Int))) : Int).toNat, true)) else (none)) else (none)) = some (r1, r2) := by rw [if_pos rfl] at H; exact H
  obtain ⟨ji5, hji5⟩ : ∃ j_ : Int, (wrap64 ((a0.size : Int) - (a1.size : Int))) = j_ := ⟨_, rfl⟩
  replace H : (if 0 ≤ (ji5) then (if (ji5) ≤ (a0.size : Int) then (some (a0.extract 0 ((ji5) : Int).toNat, true)) else (none)) else (none)) = some (r1, r2) := by first | (rw [hji5] at H; exact H)
  have hji5w : (IntKind.i64.wrap ((a0.size : Int) - (a1.size : Int))) = ji5 := (cS _).trans hji5
  by_cases c6 : 0 ≤ (ji5)
  ·rw [if_pos c6] at H
   have c6b0 := eq_true c6
   have c6b1 : decide (0 ≤ (ji5)) = true := aH c6
   clear c6
   by_cases c7 : (ji5) ≤ (a0.size : Int)
   ·rw [if_pos c7] at H
    have c7b0 := eq_true c7
    clear c7
    simp only [aV, aW] at H
    obtain ⟨rfl, rfl⟩ := H
    go_enter Try.func73, Try.ntmps73
    go_wp2_with (first | ((with_reducible refine aY (f := 90) rfl ?_); refine gL 8 Try.func90 #[.string a0, .string a1] ?_; (with_reducible refine (stringslite_HasSuffix.calls a0 a1 true _ A3.out).mono ?_); rintro e w' ⟨rfl, ⟨nd, rfl⟩⟩; refine ⟨_, rfl, ?_⟩))
    go_ret2
    exact ⟨by first | rfl | (simp [*]; done), by repeat (first | exact Drawn0.refl _ | apply Drawn0.step)⟩
   ·rw [if_neg c7] at H
    exact absurd H (by simp)
  ·rw [if_neg c6] at H
   exact absurd H (by simp)
 ·replace c4 := Bool.eq_false_iff.mpr c4
  subst c4
  replace H : (some (a0, false)) = some (r1, r2) := by rw [if_neg (show ¬ (false = true) by decide)] at H; exact H
  simp only [aV, aW] at H
  obtain ⟨rfl, rfl⟩ := H
  go_enter Try.func73, Try.ntmps73
  go_wp2_with (first | ((with_reducible refine aY (f := 90) rfl ?_); refine gL 8 Try.func90 #[.string a0, .string a1] ?_; (with_reducible refine (stringslite_HasSuffix.calls a0 a1 false _ A3.out).mono ?_); rintro e w' ⟨rfl, ⟨nd, rfl⟩⟩; refine ⟨_, rfl, ?_⟩))
  go_ret2
  exact ⟨by first | rfl | (simp [*]; done), by repeat (first | exact Drawn0.refl _ | apply Drawn0.step)⟩


def strings_CutSuffix.f (a0 : ByteArray) (a1 : ByteArray) : Option (ByteArray × Bool) := (stringslite_CutSuffix.f a0 a1).bind fun bt234 => (some (bt234.1, bt234.2))
set_option maxHeartbeats 8000000 in
set_option maxRecDepth 100000 in
theorem strings_CutSuffix.calls (a0 : ByteArray) (a1 : ByteArray) (r1 : ByteArray) (r2 : Bool) (w : World) (h : strings_CutSuffix.f a0 a1 = some (r1, r2)) :
  Calls Try.prog 52 #[.string a0, .string a1] w fun e w' => e = .returned (.tuple #[.string r1, .bool r2]) ∧ Drawn0 w w' := by
 have H : ((stringslite_CutSuffix.f a0 a1).bind fun bt234 => (some (bt234.1, bt234.2))) = some (r1, r2) := h
 clear h
 replace H := Option.bind_eq_some_iff.mp H
 obtain ⟨⟨t234, t235⟩, A30, H⟩ := H
 replace H : (some (t234, t235)) = some (r1, r2) := H
 have A3 := aM A30
 clear A30
 simp only [aV, aW] at H
 obtain ⟨rfl, rfl⟩ := H
 go_enter Try.func52, Try.ntmps52
 go_wp2_with (first | ((with_reducible refine aY (f := 73) rfl ?_); refine gL 8 Try.func73 #[.string a0, .string a1] ?_; (with_reducible refine (stringslite_CutSuffix.calls a0 a1 t234 t235 _ A3.out).mono ?_); rintro e w' ⟨rfl, ⟨nd, rfl⟩⟩; refine ⟨_, rfl, ?_⟩))
 go_ret2
 exact ⟨by first | rfl | (simp [*]; done), by repeat (first | exact Drawn0.refl _ | apply Drawn0.step)⟩


/-- The signs of a text: all are '0' or '1', and there are at most 60; false otherwise. -/
def impl_signs.ok (l : List UInt8) : Bool := l.all fun c => c == 48 || c == 49
def impl_signs.f (a0 : ByteArray) : Option (List Bool × Bool) :=
 if a0.size < 140737488355328 then
  if impl_signs.ok a0.data.toList then some (a0.data.toList.map (· == 49), decide ((a0.size : Int) ≤ 60)) else some ([], false)
 else none
theorem impl_signs.take (l : List UInt8) (k : Nat) (h : k < l.length) : l.take (k + 1) = l.take k ++ [l.getD k 0] := by
 rw [List.take_succ_eq_append_getElem h]; simp [List.getD, List.getElem?_eq_getElem h]
theorem impl_signs.step (l : List UInt8) (k : Nat) (h : k < l.length) (h0 : impl_signs.ok (l.take k) = true) (hc : l.getD k 0 = 48 ∨ l.getD k 0 = 49) : impl_signs.ok (l.take (k + 1)) = true := by
 rw [impl_signs.take l k h]
 unfold impl_signs.ok at *
 rw [List.all_append, h0]
 simp only [List.all_cons, List.all_nil, Bool.and_true, Bool.true_and]
 rcases hc with hc | hc <;> rw [hc] <;> rfl
theorem impl_signs.stop (l : List UInt8) (k : Nat) (h : k < l.length) (h1 : l.getD k 0 ≠ 48) (h2 : l.getD k 0 ≠ 49) : impl_signs.ok l = false := by
 unfold impl_signs.ok
 rw [List.all_eq_false]
 refine ⟨l.getD k 0, ?_, ?_⟩
 ·simp [List.getD, List.getElem?_eq_getElem h]
 ·simp only [Bool.or_eq_true, beq_iff_eq, not_or]; exact ⟨h1, h2⟩
theorem impl_signs.byte (b : UInt8) (n : Nat) (hn : n < 256) : b = UInt8.ofNat n ↔ (b.toNat : Int) = n := by
 constructor
 ·rintro rfl; simp; omega
 ·intro h
  have : b.toNat = n := by exact_mod_cast h
  subst this; simp
set_option maxHeartbeats 1000000 in
set_option maxRecDepth 100000 in
theorem impl_signs.calls (a0 : ByteArray) (r1 : List Bool) (r2 : Bool) (w : World) (h : impl_signs.f a0 = some (r1, r2)) :
  Calls Try.prog 53 #[.string a0] w fun e w' => ∃ v0_ : Value, e = .returned (.tuple #[v0_, .bool r2]) ∧ Kd.R Kd.bool 4 w' w.heap.size (fun _ => True) v0_ r1 ∧ Below w.heap.size w w' := by
 unfold impl_signs.f at h
 split at h
 case isFalse => cases h
 rename_i hs
 have H := Lib.hid h
 clear h
 have hrun := Lib.run_convert_string_bytes (P := Try.prog) w 9 22 5 a0 Try.underlying9 Try.underlying22 Try.underlying5
 have hl : a0.data.toList.length = a0.size := Array.length_toList
 have HL := Lib.hid hl
 clear hl
 have HC := Lib.hid (Lib.bytesWorld_cell w 5 a0)
 have HZ := Lib.hid (Lib.bytesWorld_size w 5 a0)
 have HB0 : Aside0 (Below w.heap.size w (Lib.bytesWorld w 5 a0)) := ⟨⟨rfl, rfl, rfl, by have := HZ.out; omega, fun j hj => Lib.bytesWorld_at_old w 5 a0 j hj⟩⟩
 generalize grownCap w a0.size 0 5 = cp at hrun
 generalize Lib.bytesWorld w 5 a0 = w1 at *
 have G0 : Aside0 (w.heap.size ≤ w1.heap.size) := ⟨by have := HZ.out; omega⟩
 go_enter Try.func53, Try.ntmps53
 go_wp2
 clear hrun
 go_loopw [4, 10] (fun v4 v10 w' => ∃ k : Nat, k ≤ a0.size ∧ v10 = .int .i64 k ∧ Aside0 (impl_signs.ok (a0.data.toList.take k) = true) ∧ Aside0 (Kd.R Kd.bool 4 w' w1.heap.size (fun _ => True) v4 ((a0.data.toList.take k).map (· == 49))) ∧ Aside0 (Below w1.heap.size w1 w')) (fun _ v10 _ => a0.size - (intOf v10).toNat)
 case atStart => exact ⟨0, Nat.zero_le _, rfl, ⟨rfl⟩, ⟨Kd.R_nil _ _ _ _ _⟩, ⟨cE _ _⟩⟩
 case round =>
  obtain ⟨k, hk, rfl, HO, HR, HB⟩ := hrel
  by_cases hlt : k < a0.size
  ·have hcell : wr.cell? ⟨w.heap.size, k, none⟩ = some (.int .u8 ((a0.data.toList.getD k 0).toNat : Int)) := by
    rw [← HC.out k hlt]
    exact HB.out.cell (p := ⟨w.heap.size, k, none⟩) (by have := HZ.out; simp; omega)
   have hstep := impl_signs.take a0.data.toList k (by rw [HL.out]; exact hlt)
   by_cases h48 : a0.data.toList.getD k 0 = 48 ∨ a0.data.toList.getD k 0 = 49
   ·have HN := Lib.hid (impl_signs.step _ _ (by rw [HL.out]; exact hlt) HO.out h48)
    have hlt' : decide ((k : Int) < (a0.size : Int)) = true := by simpa using hlt
    rcases h48 with h48 | h48
    ·rw [h48] at hcell hstep
     have HS := Lib.hid hstep
     clear hstep h48
     go_wp2_with (first | ((with_reducible refine gate_builtin (b := .append) (xs := #[.tmp 20, .tmp 23]) rfl ?_); at_builtin; refine Kd.R_append Kd.bool (w0 := w1) w1.heap.size rfl (.tmp 20) (.tmp 23) 52 4 (.bool false) 1 rfl Try.underlying52 info4 rfl (by decide) (by omega) u4 ((a0.data.toList.take k).map (· == 49)) false [.bool false] (fun _ => True) (fun _ => False) rfl rfl ?aP (fun _ hk => hk.elim) ?aF ?aO ?aB ?aS ?aL ?_; (case aP => exact rfl); (case aB => exact HB.out); (case aF => exact (fun _ _ => trivial)); (case aO => exact HR.out); (case aS => exact HB.out.size); (case aL => simp only [List.length_map, List.length_take]; omega); intro v105 w10 ho hb hg hat; clear HB HR; have HB := aM hb; have HR := aM ho; clear ho hb hg hat))
     go_roundw
     case rel => exact ⟨k + 1, by omega, by go_num, ⟨HN.out⟩, ⟨by rw [HS.out, List.map_append]; exact HR.out⟩, HB⟩
     case measure => simp [intOf]; omega
    ·rw [h48] at hcell hstep
     have HS := Lib.hid hstep
     clear hstep h48
     go_wp2_with (first | ((with_reducible refine gate_builtin (b := .append) (xs := #[.tmp 20, .tmp 23]) rfl ?_); at_builtin; refine Kd.R_append Kd.bool (w0 := w1) w1.heap.size rfl (.tmp 20) (.tmp 23) 52 4 (.bool false) 1 rfl Try.underlying52 info4 rfl (by decide) (by omega) u4 ((a0.data.toList.take k).map (· == 49)) true [.bool true] (fun _ => True) (fun _ => False) rfl rfl ?aP2 (fun _ hk => hk.elim) ?aF2 ?aO2 ?aB2 ?aS2 ?aL2 ?_; (case aP2 => exact rfl); (case aB2 => exact HB.out); (case aF2 => exact (fun _ _ => trivial)); (case aO2 => exact HR.out); (case aS2 => exact HB.out.size); (case aL2 => simp only [List.length_map, List.length_take]; omega); intro v105 w10 ho hb hg hat; clear HB HR; have HB := aM hb; have HR := aM ho; clear ho hb hg hat))
     go_roundw
     case rel => exact ⟨k + 1, by omega, by go_num, ⟨HN.out⟩, ⟨by rw [HS.out, List.map_append]; exact HR.out⟩, HB⟩
     case measure => simp [intOf]; omega
   ·have HN := Lib.hid (impl_signs.stop a0.data.toList k (by rw [HL.out]; exact hlt) (fun h => h48 (.inl h)) (fun h => h48 (.inr h)))
    have hv := @impl_signs.byte
    have n48 : ¬ ((a0.data.toList.getD k 0).toNat : Int) = 48 := fun e => h48 (.inl ((impl_signs.byte _ 48 (by omega)).2 e))
    have n49 : ¬ ((a0.data.toList.getD k 0).toNat : Int) = 49 := fun e => h48 (.inr ((impl_signs.byte _ 49 (by omega)).2 e))
    clear hv hstep h48
    generalize (a0.data.toList.getD k 0).toNat = c at hcell n48 n49
    have m48 : ((c : Int) != 48) = true := by simpa using n48
    have m49 : ((c : Int) != 49) = true := by simpa using n49
    clear n48 n49
    go_wp2
    have HX := H.out
    rw [HN.out] at HX
    simp only [bX, if_false, aV, aW] at HX
    obtain ⟨rfl, rfl⟩ := HX
    go_ret2
    exact ⟨_, rfl, Kd.R_nil _ _ _ _ _, below_then HB0.out G0.out HB.out⟩
  ·obtain rfl : k = a0.size := by omega
   have hok := HO.out
   have hR := HR.out
   rw [List.take_of_length_le (by rw [HL.out]; exact cD _)] at hok hR
   have HX := H.out
   rw [if_pos hok] at HX
   simp only [aV, aW] at HX
   obtain ⟨rfl, rfl⟩ := HX
   have HN := Lib.hid (Kd.R_reads hR)
   have HR' := Lib.hid hR
   clear hok hR
   obtain ⟨A, c, rfl, hlc, _⟩ := HN.out
   clear HN HR
   have HS : ((a0.data.toList.map (· == 49)).length) = a0.size := by rw [List.length_map, HL.out]
   rw [HS] at *
   clear HS
   go_wp2
   go_ret2
   have hR2 := HR'.out
   rw [List.length_map, HL.out] at hR2
   exact ⟨_, rfl, bP hR2 G0.out, below_then HB0.out G0.out HB.out⟩

def impl_setOf.f (a0 : ByteArray) : Option (List Bool × List Bool × Bool) := (strings_Cut.f a0 (⟨#[40]⟩ : ByteArray)).bind fun bt237 => ((strings_CutSuffix.f bt237.2.1 (⟨#[41]⟩ : ByteArray)).bind fun bt240 => ((impl_signs.f bt237.1).bind fun bt242 => ((impl_signs.f bt240.1).bind fun bt246 => (if bt237.2.2 = true then (if bt240.2 = true then (if bt242.2 = true then (if bt246.2 = true then (some (bt242.1, bt246.1, decide ((bt246.1.length : Int) > 0))) else (some (bt242.1, bt246.1, false))) else (some (bt242.1, bt246.1, false))) else (some (bt242.1, bt246.1, false))) else (some (bt242.1, bt246.1, false))))))
set_option maxHeartbeats 8000000 in
set_option maxRecDepth 100000 in
theorem impl_setOf.calls (a0 : ByteArray) (r1 : List Bool) (r2 : List Bool) (r3 : Bool) (w : World) (h : impl_setOf.f a0 = some (r1, r2, r3)) :
  Calls Try.prog 32 #[.string a0] w fun e w' => ∃ v0_ v1_ : Value, e = .returned (.tuple #[.agg #[v0_, v1_], .bool r3]) ∧ Kd.R Kd.bool 4 w' w.heap.size (fun k_ => some k_ ≠ (v1_ : Value).ownBlock) v0_ r1 ∧ Kd.R Kd.bool 4 w' w.heap.size (fun k_ => some k_ ≠ (v0_ : Value).ownBlock) v1_ r2 ∧ Below w.heap.size w w' := by
 have HB := aM (cE w.heap.size w)
 have H : ((strings_Cut.f a0 (⟨#[40]⟩ : ByteArray)).bind fun bt237 => ((strings_CutSuffix.f bt237.2.1 (⟨#[41]⟩ : ByteArray)).bind fun bt240 => ((impl_signs.f bt237.1).bind fun bt242 => ((impl_signs.f bt240.1).bind fun bt246 => (if bt237.2.2 = true then (if bt240.2 = true then (if bt242.2 = true then (if bt246.2 = true then (some (bt242.1, bt246.1, decide ((bt246.1.length : Int) > 0))) else (some (bt242.1, bt246.1, false))) else (some (bt242.1, bt246.1, false))) else (some (bt242.1, bt246.1, false))) else (some (bt242.1, bt246.1, false))))))) = some (r1, r2, r3) := h
 clear h
 replace H := Option.bind_eq_some_iff.mp H
 obtain ⟨⟨t237, t238, t239⟩, A20, H⟩ := H
 replace H : ((strings_CutSuffix.f t238 (⟨#[41]⟩ : ByteArray)).bind fun bt240 => ((impl_signs.f t237).bind fun bt242 => ((impl_signs.f bt240.1).bind fun bt246 => (if t239 = true then (if bt240.2 = true then (if bt242.2 = true then (if bt246.2 = true then (some (bt242.1, bt246.1, decide ((bt246.1.length : Int) > 0))) else (some (bt242.1, bt246.1, false))) else (some (bt242.1, bt246.1, false))) else (some (bt242.1, bt246.1, false))) else (some (bt242.1, bt246.1, false)))))) = some (r1, r2, r3) := H
 have A2 := aM A20
 clear A20
 replace H := Option.bind_eq_some_iff.mp H
 obtain ⟨⟨t240, t241⟩, A30, H⟩ := H
 replace H : ((impl_signs.f t237).bind fun bt242 => ((impl_signs.f t240).bind fun bt246 => (if t239 = true then (if t241 = true then (if bt242.2 = true then (if bt246.2 = true then (some (bt242.1, bt246.1, decide ((bt246.1.length : Int) > 0))) else (some (bt242.1, bt246.1, false))) else (some (bt242.1, bt246.1, false))) else (some (bt242.1, bt246.1, false))) else (some (bt242.1, bt246.1, false))))) = some (r1, r2, r3) := H
 have A3 := aM A30
 clear A30
 replace H := Option.bind_eq_some_iff.mp H
 obtain ⟨⟨t242, t243⟩, A40, H⟩ := H
 replace H : ((impl_signs.f t240).bind fun bt246 => (if t239 = true then (if t241 = true then (if t243 = true then (if bt246.2 = true then (some (t242, bt246.1, decide ((bt246.1.length : Int) > 0))) else (some (t242, bt246.1, false))) else (some (t242, bt246.1, false))) else (some (t242, bt246.1, false))) else (some (t242, bt246.1, false)))) = some (r1, r2, r3) := H
 have A4 := aM A40
 clear A40
 replace H := Option.bind_eq_some_iff.mp H
 obtain ⟨⟨t246, t247⟩, A50, H⟩ := H
 replace H : (if t239 = true then (if t241 = true then (if t243 = true then (if t247 = true then (some (t242, t246, decide ((t246.length : Int) > 0))) else (some (t242, t246, false))) else (some (t242, t246, false))) else (some (t242, t246, false))) else (some (t242, t246, false))) = some (r1, r2, r3) := H
 have A5 := aM A50
 clear A50
 by_cases c6 : t239 = true
 ·subst c6
  replace H : (if t241 = true then (if t243 = true then (if t247 = true then (some (t242, t246, decide ((t246.length : Int) > 0))) else (some (t242, t246, false))) else (some (t242, t246, false))) else (some (t242, t246, false))) = some (r1, r2, r3) := by rw [if_pos rfl] at H; exact H
  by_cases c7 : t241 = true
  ·subst c7
   replace H : (if t243 = true then (if t247 = true then (some (t242, t246, decide ((t246.length : Int) > 0))) else (some (t242, t246, false))) else (some (t242, t246, false))) = some (r1, r2, r3) := by rw [if_pos rfl] at H; exact H
   by_cases c8 : t243 = true
   ·subst c8
    replace H : (if t247 = true then (some (t242, t246, decide ((t246.length : Int) > 0))) else (some (t242, t246, false))) = some (r1, r2, r3) := by rw [if_pos rfl] at H; exact H
    by_cases c9 : t247 = true
    all_goals
     first
     |replace c9 := Bool.eq_false_iff.mpr c9
     |skip
     subst c9
     first
     |have H1 : (some (t242, t246, decide ((t246.length : Int) > 0))) = some (r1, r2, r3) := by rw [if_pos rfl] at H; exact H
     |have H1 : (some (t242, t246, false)) = some (r1, r2, r3) := by rw [if_neg (show ¬ (false = true) by decide)] at H; exact H
     clear H
     have H := H1
     clear H1
     simp only [aV, aW] at H
     obtain ⟨rfl, rfl, rfl⟩ := H
     go_enter Try.func32, Try.ntmps32
     go_wp2_with (first | ((with_reducible refine aZ (N := 2) rfl ?_); (try (refine gate_guard (by rfl) ?_; dsimp only)); refine bB ?hg (N := 2) ?hd (cs := #[.slice none 0 0, .slice none 0 0]) (t := 56) ?hr ?_; (case hd => rfl); (case hg => rfl); (case hr => first | (go_simp; done)); intro gb236 hg w10 hbox hb; have BK236 := aM hbox; have GE236 := aM ((by rw [hg]; exact (aG HB.out) : w.heap.size ≤ gb236)); replace HB := aM (aE HB.out hb); clear hb hbox hg) | ((with_reducible refine aY (f := 51) rfl ?_); refine gL 15 Try.func51 #[.string a0, .string (⟨#[40]⟩ : ByteArray)] ?_; (with_reducible refine (strings_Cut.calls a0 (⟨#[40]⟩ : ByteArray) t237 t238 true _ A2.out).mono ?_); rintro e w' ⟨rfl, ⟨nd, rfl⟩⟩; refine ⟨_, rfl, ?_⟩; (try (rw [drewN_self w10]; generalize hq_ : World.drewN w10 _ = w10; have n0_ : Aside0 (w10.heap[gb236]? = some (.cells #[.slice none 0 0, .slice none 0 0] 56 (0, 0))) := ⟨by rw [← hq_]; exact (by (with_reducible repeat (refine kN ?_ _)); exact BK236.out)⟩; have n1_ : Aside0 (Below w.heap.size w w10) := ⟨by rw [← hq_]; exact (by repeat (first | (with_reducible first | exact HB.out | apply bN)))⟩; clear BK236 HB hq_; have BK236 := n0_; have HB := n1_; clear n0_ n1_))) | ((with_reducible refine aY (f := 52) rfl ?_); refine gL 21 Try.func52 #[.string t238, .string (⟨#[41]⟩ : ByteArray)] ?_; (with_reducible refine (strings_CutSuffix.calls t238 (⟨#[41]⟩ : ByteArray) t240 true _ A3.out).mono ?_); rintro e w' ⟨rfl, ⟨nd, rfl⟩⟩; refine ⟨_, rfl, ?_⟩; (try (rw [drewN_self w10]; generalize hq_ : World.drewN w10 _ = w10; have n0_ : Aside0 (w10.heap[gb236]? = some (.cells #[.slice none 0 0, .slice none 0 0] 56 (0, 0))) := ⟨by rw [← hq_]; exact (by (with_reducible repeat (refine kN ?_ _)); exact BK236.out)⟩; have n1_ : Aside0 (Below w.heap.size w w10) := ⟨by rw [← hq_]; exact (by repeat (first | (with_reducible first | exact HB.out | apply bN)))⟩; clear BK236 HB hq_; have BK236 := n0_; have HB := n1_; clear n0_ n1_))) | ((with_reducible refine aY (f := 53) rfl ?_); refine gL 26 Try.func53 #[.string t237] ?_; (with_reducible refine (impl_signs.calls t237 t242 true _ A4.out).mono ?_); rintro e w11 ⟨v244, rfl, ho0, hb⟩; refine ⟨_, rfl, ?_⟩; have HO245 := aM (bP ho0 (aG HB.out)); replace BK236 := aM (aD (g := gb236) (o := .cells #[.slice none 0 0, .slice none 0 0] 56 (0, 0)) BK236.out hb); replace HB := aM (aE HB.out hb); (try clear hb); (try clear ho0)) | ((with_reducible refine aY (f := 53) rfl ?_); refine gL 31 Try.func53 #[.string t240] ?_; (with_reducible refine (impl_signs.calls t240 t246 _ _ A5.out).mono ?_); rintro e w12 ⟨v248, rfl, ho0, hb⟩; refine ⟨_, rfl, ?_⟩; have HO249 := aM (bP (Kd.R_new' ho0 (Kd.R_lt HO245.out)) (aG HB.out)); replace HO245 := aM (Kd.R_elder' HO245.out (Kd.R_base ho0) hb); replace BK236 := aM (aD (g := gb236) (o := .cells #[.slice none 0 0, .slice none 0 0] 56 (0, 0)) BK236.out hb); replace HB := aM (aE HB.out hb); (try clear hb); (try clear ho0); obtain ⟨Ao13, co13, eo13⟩ := bL HO249.out; subst eo13; obtain ⟨Ao14, co14, eo14⟩ := bL HO245.out; subst eo14; have hcz15_0 : w12.cell? ⟨gb236, 0, none⟩ = some (.slice none 0 0) := (aA BK236.out 0).trans rfl; have hcz15_1 : w12.cell? ⟨gb236, 1, none⟩ = some (.slice none 0 0) := (aA BK236.out 1).trans rfl; have hfz15_0 := aC BK236.out 0; have hfz15_1 := aC BK236.out 1))
     refine cF (cG rfl _ _ gb236 56 #[.slice Ao14 t242.length co14, .slice Ao13 t246.length co13] (0, 0) _ rfl (by refine bV (cs := #[.slice Ao14 t242.length co14, .slice none 0 0]) ?_ 1 _ rfl; refine bV (cs := #[.slice none 0 0, .slice none 0 0]) ?_ 0 _ rfl; exact BK236.out) Try.underlying56 rfl (by kernel_rfl)) rfl ?_
     first
     |exact ⟨_, _, by first | (simp [errW_none, errW_some]; exact ⟨rfl, rfl⟩) | (simp [*, errW_none, errW_some] <;> rfl), by exact bJ (bC (p := ⟨gb236, 1, none⟩) (bC (p := ⟨gb236, 0, none⟩) (bE HO245.out BK236.out (by decide)) (fun _ hk => hk.2) (.slice Ao14 t242.length co14)) (fun _ hk => hk.2) (.slice Ao13 t246.length co13)) (fun _ hk => hk.1.2), by exact bJ (bC (p := ⟨gb236, 1, none⟩) (bC (p := ⟨gb236, 0, none⟩) (bE HO249.out BK236.out (by decide)) (fun _ hk => hk.2) (.slice Ao14 t242.length co14)) (fun _ hk => hk.2) (.slice Ao13 t246.length co13)) (fun _ hk => hk.1.2), by repeat (first | (with_reducible first | exact HB.out | refine bS ?_ GE236.out))⟩
     |exact ⟨_, _, by first | rfl | (simp [*, errW_none, errW_some] <;> rfl), by exact bJ (bC (p := ⟨gb236, 1, none⟩) (bC (p := ⟨gb236, 0, none⟩) (bE HO245.out BK236.out (by decide)) (fun _ hk => hk.2) (.slice Ao14 t242.length co14)) (fun _ hk => hk.2) (.slice Ao13 t246.length co13)) (fun _ hk => hk.1.2), by exact bJ (bC (p := ⟨gb236, 1, none⟩) (bC (p := ⟨gb236, 0, none⟩) (bE HO249.out BK236.out (by decide)) (fun _ hk => hk.2) (.slice Ao14 t242.length co14)) (fun _ hk => hk.2) (.slice Ao13 t246.length co13)) (fun _ hk => hk.1.2), by repeat (first | (with_reducible first | exact HB.out | refine bS ?_ GE236.out))⟩
   ·replace c8 := Bool.eq_false_iff.mpr c8
    subst c8
    replace H : (some (t242, t246, false)) = some (r1, r2, r3) := by rw [if_neg (show ¬ (false = true) by decide)] at H; exact H
    simp only [aV, aW] at H
    obtain ⟨rfl, rfl, rfl⟩ := H
    go_enter Try.func32, Try.ntmps32
    go_wp2_with (first | ((with_reducible refine aZ (N := 2) rfl ?_); (try (refine gate_guard (by rfl) ?_; dsimp only)); refine bB ?hg (N := 2) ?hd (cs := #[.slice none 0 0, .slice none 0 0]) (t := 56) ?hr ?_; (case hd => rfl); (case hg => rfl); (case hr => first | (go_simp; done)); intro gb236 hg w22 hbox hb; have BK236 := aM hbox; have GE236 := aM ((by rw [hg]; exact (aG HB.out) : w.heap.size ≤ gb236)); replace HB := aM (aE HB.out hb); clear hb hbox hg) | ((with_reducible refine aY (f := 51) rfl ?_); refine gL 15 Try.func51 #[.string a0, .string (⟨#[40]⟩ : ByteArray)] ?_; (with_reducible refine (strings_Cut.calls a0 (⟨#[40]⟩ : ByteArray) t237 t238 true _ A2.out).mono ?_); rintro e w' ⟨rfl, ⟨nd, rfl⟩⟩; refine ⟨_, rfl, ?_⟩; (try (rw [drewN_self w22]; generalize hq_ : World.drewN w22 _ = w22; have n0_ : Aside0 (w22.heap[gb236]? = some (.cells #[.slice none 0 0, .slice none 0 0] 56 (0, 0))) := ⟨by rw [← hq_]; exact (by (with_reducible repeat (refine kN ?_ _)); exact BK236.out)⟩; have n1_ : Aside0 (Below w.heap.size w w22) := ⟨by rw [← hq_]; exact (by repeat (first | (with_reducible first | exact HB.out | apply bN)))⟩; clear BK236 HB hq_; have BK236 := n0_; have HB := n1_; clear n0_ n1_))) | ((with_reducible refine aY (f := 52) rfl ?_); refine gL 21 Try.func52 #[.string t238, .string (⟨#[41]⟩ : ByteArray)] ?_; (with_reducible refine (strings_CutSuffix.calls t238 (⟨#[41]⟩ : ByteArray) t240 true _ A3.out).mono ?_); rintro e w' ⟨rfl, ⟨nd, rfl⟩⟩; refine ⟨_, rfl, ?_⟩; (try (rw [drewN_self w22]; generalize hq_ : World.drewN w22 _ = w22; have n0_ : Aside0 (w22.heap[gb236]? = some (.cells #[.slice none 0 0, .slice none 0 0] 56 (0, 0))) := ⟨by rw [← hq_]; exact (by (with_reducible repeat (refine kN ?_ _)); exact BK236.out)⟩; have n1_ : Aside0 (Below w.heap.size w w22) := ⟨by rw [← hq_]; exact (by repeat (first | (with_reducible first | exact HB.out | apply bN)))⟩; clear BK236 HB hq_; have BK236 := n0_; have HB := n1_; clear n0_ n1_))) | ((with_reducible refine aY (f := 53) rfl ?_); refine gL 26 Try.func53 #[.string t237] ?_; (with_reducible refine (impl_signs.calls t237 t242 false _ A4.out).mono ?_); rintro e w23 ⟨v244, rfl, ho0, hb⟩; refine ⟨_, rfl, ?_⟩; have HO245 := aM (bP ho0 (aG HB.out)); replace BK236 := aM (aD (g := gb236) (o := .cells #[.slice none 0 0, .slice none 0 0] 56 (0, 0)) BK236.out hb); replace HB := aM (aE HB.out hb); (try clear hb); (try clear ho0)) | ((with_reducible refine aY (f := 53) rfl ?_); refine gL 31 Try.func53 #[.string t240] ?_; (with_reducible refine (impl_signs.calls t240 t246 t247 _ A5.out).mono ?_); rintro e w24 ⟨v248, rfl, ho0, hb⟩; refine ⟨_, rfl, ?_⟩; have HO249 := aM (bP (Kd.R_new' ho0 (Kd.R_lt HO245.out)) (aG HB.out)); replace HO245 := aM (Kd.R_elder' HO245.out (Kd.R_base ho0) hb); replace BK236 := aM (aD (g := gb236) (o := .cells #[.slice none 0 0, .slice none 0 0] 56 (0, 0)) BK236.out hb); replace HB := aM (aE HB.out hb); (try clear hb); (try clear ho0); obtain ⟨Ao25, co25, eo25⟩ := bL HO249.out; subst eo25; obtain ⟨Ao26, co26, eo26⟩ := bL HO245.out; subst eo26; have hcz27_0 : w24.cell? ⟨gb236, 0, none⟩ = some (.slice none 0 0) := (aA BK236.out 0).trans rfl; have hcz27_1 : w24.cell? ⟨gb236, 1, none⟩ = some (.slice none 0 0) := (aA BK236.out 1).trans rfl; have hfz27_0 := aC BK236.out 0; have hfz27_1 := aC BK236.out 1))
    refine cF (cG rfl _ _ gb236 56 #[.slice Ao26 t242.length co26, .slice Ao25 t246.length co25] (0, 0) _ rfl (by refine bV (cs := #[.slice Ao26 t242.length co26, .slice none 0 0]) ?_ 1 _ rfl; refine bV (cs := #[.slice none 0 0, .slice none 0 0]) ?_ 0 _ rfl; exact BK236.out) Try.underlying56 rfl (by kernel_rfl)) rfl ?_
    exact ⟨_, _, by first | rfl | (simp [*, errW_none, errW_some] <;> rfl), by exact bJ (bC (p := ⟨gb236, 1, none⟩) (bC (p := ⟨gb236, 0, none⟩) (bE HO245.out BK236.out (by decide)) (fun _ hk => hk.2) (.slice Ao26 t242.length co26)) (fun _ hk => hk.2) (.slice Ao25 t246.length co25)) (fun _ hk => hk.1.2), by exact bJ (bC (p := ⟨gb236, 1, none⟩) (bC (p := ⟨gb236, 0, none⟩) (bE HO249.out BK236.out (by decide)) (fun _ hk => hk.2) (.slice Ao26 t242.length co26)) (fun _ hk => hk.2) (.slice Ao25 t246.length co25)) (fun _ hk => hk.1.2), by repeat (first | (with_reducible first | exact HB.out | refine bS ?_ GE236.out))⟩
  ·replace c7 := Bool.eq_false_iff.mpr c7
   subst c7
   replace H : (some (t242, t246, false)) = some (r1, r2, r3) := by rw [if_neg (show ¬ (false = true) by decide)] at H; exact H
   simp only [aV, aW] at H
   obtain ⟨rfl, rfl, rfl⟩ := H
   go_enter Try.func32, Try.ntmps32
   go_wp2_with (first | ((with_reducible refine aZ (N := 2) rfl ?_); (try (refine gate_guard (by rfl) ?_; dsimp only)); refine bB ?hg (N := 2) ?hd (cs := #[.slice none 0 0, .slice none 0 0]) (t := 56) ?hr ?_; (case hd => rfl); (case hg => rfl); (case hr => first | (go_simp; done)); intro gb236 hg w28 hbox hb; have BK236 := aM hbox; have GE236 := aM ((by rw [hg]; exact (aG HB.out) : w.heap.size ≤ gb236)); replace HB := aM (aE HB.out hb); clear hb hbox hg) | ((with_reducible refine aY (f := 51) rfl ?_); refine gL 15 Try.func51 #[.string a0, .string (⟨#[40]⟩ : ByteArray)] ?_; (with_reducible refine (strings_Cut.calls a0 (⟨#[40]⟩ : ByteArray) t237 t238 true _ A2.out).mono ?_); rintro e w' ⟨rfl, ⟨nd, rfl⟩⟩; refine ⟨_, rfl, ?_⟩; (try (rw [drewN_self w28]; generalize hq_ : World.drewN w28 _ = w28; have n0_ : Aside0 (w28.heap[gb236]? = some (.cells #[.slice none 0 0, .slice none 0 0] 56 (0, 0))) := ⟨by rw [← hq_]; exact (by (with_reducible repeat (refine kN ?_ _)); exact BK236.out)⟩; have n1_ : Aside0 (Below w.heap.size w w28) := ⟨by rw [← hq_]; exact (by repeat (first | (with_reducible first | exact HB.out | apply bN)))⟩; clear BK236 HB hq_; have BK236 := n0_; have HB := n1_; clear n0_ n1_))) | ((with_reducible refine aY (f := 52) rfl ?_); refine gL 21 Try.func52 #[.string t238, .string (⟨#[41]⟩ : ByteArray)] ?_; (with_reducible refine (strings_CutSuffix.calls t238 (⟨#[41]⟩ : ByteArray) t240 false _ A3.out).mono ?_); rintro e w' ⟨rfl, ⟨nd, rfl⟩⟩; refine ⟨_, rfl, ?_⟩; (try (rw [drewN_self w28]; generalize hq_ : World.drewN w28 _ = w28; have n0_ : Aside0 (w28.heap[gb236]? = some (.cells #[.slice none 0 0, .slice none 0 0] 56 (0, 0))) := ⟨by rw [← hq_]; exact (by (with_reducible repeat (refine kN ?_ _)); exact BK236.out)⟩; have n1_ : Aside0 (Below w.heap.size w w28) := ⟨by rw [← hq_]; exact (by repeat (first | (with_reducible first | exact HB.out | apply bN)))⟩; clear BK236 HB hq_; have BK236 := n0_; have HB := n1_; clear n0_ n1_))) | ((with_reducible refine aY (f := 53) rfl ?_); refine gL 26 Try.func53 #[.string t237] ?_; (with_reducible refine (impl_signs.calls t237 t242 t243 _ A4.out).mono ?_); rintro e w29 ⟨v244, rfl, ho0, hb⟩; refine ⟨_, rfl, ?_⟩; have HO245 := aM (bP ho0 (aG HB.out)); replace BK236 := aM (aD (g := gb236) (o := .cells #[.slice none 0 0, .slice none 0 0] 56 (0, 0)) BK236.out hb); replace HB := aM (aE HB.out hb); (try clear hb); (try clear ho0)) | ((with_reducible refine aY (f := 53) rfl ?_); refine gL 31 Try.func53 #[.string t240] ?_; (with_reducible refine (impl_signs.calls t240 t246 t247 _ A5.out).mono ?_); rintro e w30 ⟨v248, rfl, ho0, hb⟩; refine ⟨_, rfl, ?_⟩; have HO249 := aM (bP (Kd.R_new' ho0 (Kd.R_lt HO245.out)) (aG HB.out)); replace HO245 := aM (Kd.R_elder' HO245.out (Kd.R_base ho0) hb); replace BK236 := aM (aD (g := gb236) (o := .cells #[.slice none 0 0, .slice none 0 0] 56 (0, 0)) BK236.out hb); replace HB := aM (aE HB.out hb); (try clear hb); (try clear ho0); obtain ⟨Ao31, co31, eo31⟩ := bL HO249.out; subst eo31; obtain ⟨Ao32, co32, eo32⟩ := bL HO245.out; subst eo32; have hcz33_0 : w30.cell? ⟨gb236, 0, none⟩ = some (.slice none 0 0) := (aA BK236.out 0).trans rfl; have hcz33_1 : w30.cell? ⟨gb236, 1, none⟩ = some (.slice none 0 0) := (aA BK236.out 1).trans rfl; have hfz33_0 := aC BK236.out 0; have hfz33_1 := aC BK236.out 1))
   refine cF (cG rfl _ _ gb236 56 #[.slice Ao32 t242.length co32, .slice Ao31 t246.length co31] (0, 0) _ rfl (by refine bV (cs := #[.slice Ao32 t242.length co32, .slice none 0 0]) ?_ 1 _ rfl; refine bV (cs := #[.slice none 0 0, .slice none 0 0]) ?_ 0 _ rfl; exact BK236.out) Try.underlying56 rfl (by kernel_rfl)) rfl ?_
   exact ⟨_, _, by first | rfl | (simp [*, errW_none, errW_some] <;> rfl), by exact bJ (bC (p := ⟨gb236, 1, none⟩) (bC (p := ⟨gb236, 0, none⟩) (bE HO245.out BK236.out (by decide)) (fun _ hk => hk.2) (.slice Ao32 t242.length co32)) (fun _ hk => hk.2) (.slice Ao31 t246.length co31)) (fun _ hk => hk.1.2), by exact bJ (bC (p := ⟨gb236, 1, none⟩) (bC (p := ⟨gb236, 0, none⟩) (bE HO249.out BK236.out (by decide)) (fun _ hk => hk.2) (.slice Ao32 t242.length co32)) (fun _ hk => hk.2) (.slice Ao31 t246.length co31)) (fun _ hk => hk.1.2), by repeat (first | (with_reducible first | exact HB.out | refine bS ?_ GE236.out))⟩
 ·replace c6 := Bool.eq_false_iff.mpr c6
  subst c6
  replace H : (some (t242, t246, false)) = some (r1, r2, r3) := by rw [if_neg (show ¬ (false = true) by decide)] at H; exact H
  simp only [aV, aW] at H
  obtain ⟨rfl, rfl, rfl⟩ := H
  go_enter Try.func32, Try.ntmps32
  go_wp2_with (first | ((with_reducible refine aZ (N := 2) rfl ?_); (try (refine gate_guard (by rfl) ?_; dsimp only)); refine bB ?hg (N := 2) ?hd (cs := #[.slice none 0 0, .slice none 0 0]) (t := 56) ?hr ?_; (case hd => rfl); (case hg => rfl); (case hr => first | (go_simp; done)); intro gb236 hg w34 hbox hb; have BK236 := aM hbox; have GE236 := aM ((by rw [hg]; exact (aG HB.out) : w.heap.size ≤ gb236)); replace HB := aM (aE HB.out hb); clear hb hbox hg) | ((with_reducible refine aY (f := 51) rfl ?_); refine gL 15 Try.func51 #[.string a0, .string (⟨#[40]⟩ : ByteArray)] ?_; (with_reducible refine (strings_Cut.calls a0 (⟨#[40]⟩ : ByteArray) t237 t238 false _ A2.out).mono ?_); rintro e w' ⟨rfl, ⟨nd, rfl⟩⟩; refine ⟨_, rfl, ?_⟩; (try (rw [drewN_self w34]; generalize hq_ : World.drewN w34 _ = w34; have n0_ : Aside0 (w34.heap[gb236]? = some (.cells #[.slice none 0 0, .slice none 0 0] 56 (0, 0))) := ⟨by rw [← hq_]; exact (by (with_reducible repeat (refine kN ?_ _)); exact BK236.out)⟩; have n1_ : Aside0 (Below w.heap.size w w34) := ⟨by rw [← hq_]; exact (by repeat (first | (with_reducible first | exact HB.out | apply bN)))⟩; clear BK236 HB hq_; have BK236 := n0_; have HB := n1_; clear n0_ n1_))) | ((with_reducible refine aY (f := 52) rfl ?_); refine gL 21 Try.func52 #[.string t238, .string (⟨#[41]⟩ : ByteArray)] ?_; (with_reducible refine (strings_CutSuffix.calls t238 (⟨#[41]⟩ : ByteArray) t240 t241 _ A3.out).mono ?_); rintro e w' ⟨rfl, ⟨nd, rfl⟩⟩; refine ⟨_, rfl, ?_⟩; (try (rw [drewN_self w34]; generalize hq_ : World.drewN w34 _ = w34; have n0_ : Aside0 (w34.heap[gb236]? = some (.cells #[.slice none 0 0, .slice none 0 0] 56 (0, 0))) := ⟨by rw [← hq_]; exact (by (with_reducible repeat (refine kN ?_ _)); exact BK236.out)⟩; have n1_ : Aside0 (Below w.heap.size w w34) := ⟨by rw [← hq_]; exact (by repeat (first | (with_reducible first | exact HB.out | apply bN)))⟩; clear BK236 HB hq_; have BK236 := n0_; have HB := n1_; clear n0_ n1_))) | ((with_reducible refine aY (f := 53) rfl ?_); refine gL 26 Try.func53 #[.string t237] ?_; (with_reducible refine (impl_signs.calls t237 t242 t243 _ A4.out).mono ?_); rintro e w35 ⟨v244, rfl, ho0, hb⟩; refine ⟨_, rfl, ?_⟩; have HO245 := aM (bP ho0 (aG HB.out)); replace BK236 := aM (aD (g := gb236) (o := .cells #[.slice none 0 0, .slice none 0 0] 56 (0, 0)) BK236.out hb); replace HB := aM (aE HB.out hb); (try clear hb); (try clear ho0)) | ((with_reducible refine aY (f := 53) rfl ?_); refine gL 31 Try.func53 #[.string t240] ?_; (with_reducible refine (impl_signs.calls t240 t246 t247 _ A5.out).mono ?_); rintro e w36 ⟨v248, rfl, ho0, hb⟩; refine ⟨_, rfl, ?_⟩; have HO249 := aM (bP (Kd.R_new' ho0 (Kd.R_lt HO245.out)) (aG HB.out)); replace HO245 := aM (Kd.R_elder' HO245.out (Kd.R_base ho0) hb); replace BK236 := aM (aD (g := gb236) (o := .cells #[.slice none 0 0, .slice none 0 0] 56 (0, 0)) BK236.out hb); replace HB := aM (aE HB.out hb); (try clear hb); (try clear ho0); obtain ⟨Ao37, co37, eo37⟩ := bL HO249.out; subst eo37; obtain ⟨Ao38, co38, eo38⟩ := bL HO245.out; subst eo38; have hcz39_0 : w36.cell? ⟨gb236, 0, none⟩ = some (.slice none 0 0) := (aA BK236.out 0).trans rfl; have hcz39_1 : w36.cell? ⟨gb236, 1, none⟩ = some (.slice none 0 0) := (aA BK236.out 1).trans rfl; have hfz39_0 := aC BK236.out 0; have hfz39_1 := aC BK236.out 1))
  refine cF (cG rfl _ _ gb236 56 #[.slice Ao38 t242.length co38, .slice Ao37 t246.length co37] (0, 0) _ rfl (by refine bV (cs := #[.slice Ao38 t242.length co38, .slice none 0 0]) ?_ 1 _ rfl; refine bV (cs := #[.slice none 0 0, .slice none 0 0]) ?_ 0 _ rfl; exact BK236.out) Try.underlying56 rfl (by kernel_rfl)) rfl ?_
  exact ⟨_, _, by first | rfl | (simp [*, errW_none, errW_some] <;> rfl), by exact bJ (bC (p := ⟨gb236, 1, none⟩) (bC (p := ⟨gb236, 0, none⟩) (bE HO245.out BK236.out (by decide)) (fun _ hk => hk.2) (.slice Ao38 t242.length co38)) (fun _ hk => hk.2) (.slice Ao37 t246.length co37)) (fun _ hk => hk.1.2), by exact bJ (bC (p := ⟨gb236, 1, none⟩) (bC (p := ⟨gb236, 0, none⟩) (bE HO249.out BK236.out (by decide)) (fun _ hk => hk.2) (.slice Ao38 t242.length co38)) (fun _ hk => hk.2) (.slice Ao37 t246.length co37)) (fun _ hk => hk.1.2), by repeat (first | (with_reducible first | exact HB.out | refine bS ?_ GE236.out))⟩


def impl_turns.l0 : Nat → List Bool → Int → Int → Int → Option (Bool)
 | 0, _, _, _, _ => none
 | k + 1, x0, x1, x7, x8 => if x8 < x7 then (if 0 ≤ x8 then (if x8 < (x0.length : Int) then (if x1 = 0 then (none) else (if 0 ≤ (Int.tmod x8 x1) then (if (Int.tmod x8 x1) < (x0.length : Int) then (if ((rdOf false x0 x8) != (rdOf false x0 (Int.tmod x8 x1))) = true then (some false) else (impl_turns.l0 k x0 x1 x7 (wrap64 (x8 + 1)))) else (none)) else (none))) else (none)) else (none)) else (if x1 = 0 then (none) else (some (((x0.length : Int) % x1) == 0)))
def impl_turns.f (k : Nat) (l0 : List Bool) (a1 : Int) : Option (Bool) := impl_turns.l0 k l0 a1 (l0.length : Int) 0
theorem impl_turns.mono_l : ∀ k, (∀ y0 y1 y2 y3, LeO (impl_turns.l0 k y0 y1 y2 y3) (impl_turns.l0 (k + 1) y0 y1 y2 y3))
 | 0 => fun _ _ _ _ r h => by simp [impl_turns.l0] at h
 | k + 1 => by
  have ih0 := impl_turns.mono_l k
  ·intro y0 y1 y2 y3
   unfold impl_turns.l0
   repeat' first | (with_reducible exact ih0 _ _ _ _) | (with_reducible exact LeO.refl _) | (with_reducible refine LeO.ite ?_ ?_)
theorem impl_turns.mono : ∀ a0 a1 k, LeO (impl_turns.f k a0 a1) (impl_turns.f (k + 1) a0 a1) := by
 intro a0 a1 k
 have ih0 := impl_turns.mono_l k
 unfold impl_turns.f
 repeat' (with_reducible exact ih0 _ _ _ _)
set_option maxHeartbeats 8000000 in
set_option maxRecDepth 100000 in
theorem impl_turns.calls (k : Nat) (A0 : Option Addr) (c0 : Nat) (l0 : List Bool) (a1 : Int) (r : Bool) (w : World) (hr0 : Kd.C Kd.bool w A0 l0.length l0) (hc0 : l0.length ≤ c0) (h : impl_turns.f k l0 a1 = some r) :
  Calls Try.prog 78 #[.slice A0 l0.length c0, .int .i64 a1] w fun e w' => e = .returned (.bool r) ∧ Drawn0 w w' := by
 have HR0 := aM hr0
 clear hr0 hc0
 have H : (impl_turns.l0 k l0 a1 (l0.length : Int) 0) = some r := h
 clear h
 have H' := aM H
 clear H
 go_enter Try.func78, Try.ntmps78
 go_wp2
 repeat (go_quiet (fail); try go_wp2)
 go_loopg [8] k (fun kq v8 w' => ∃ (x8_1 : Int), v8 = .int .i64 x8_1 ∧ Aside0 (impl_turns.l0 kq l0 a1 (l0.length : Int) x8_1 = some r) ∧ Aside0 (kq ≤ k) ∧ Drawn0 w w')
 case atStart => exact ⟨(0), (by rfl), H', ⟨cD _⟩, by repeat (exact Drawn0.refl _)⟩
 case round =>
  clear H'
  obtain ⟨x8_1, rfl, HA, HK1, ⟨m1, rfl⟩⟩ := hrel
  cases gk with
  | zero => exact absurd HA.out (by simp [impl_turns.l0])
  | succ k1 =>
   have H := HA.out
   clear HA
   simp only [impl_turns.l0] at H
   by_cases c3 : x8_1 < (l0.length : Int)
   ·rw [if_pos c3] at H
    have c3b0 : decide (x8_1 < (l0.length : Int)) = true := aH c3
    clear c3
    by_cases c4 : 0 ≤ x8_1
    ·rw [if_pos c4] at H
     have c4b0 : decide (0 ≤ x8_1) = true := aH c4
     clear c4
     by_cases c5 : x8_1 < (l0.length : Int)
     ·rw [if_pos c5] at H
      have c5b0 : decide (x8_1 < (l0.length : Int)) = true := aH c5
      clear c5
      by_cases c6 : a1 = 0
      ·rw [if_pos c6] at H
       exact absurd H (by simp)
      ·rw [if_neg c6] at H
       obtain ⟨ji7, hji7⟩ : ∃ j_ : Int, (Int.tmod x8_1 a1) = j_ := ⟨_, rfl⟩
       replace H : (if 0 ≤ (ji7) then (if (ji7) < (l0.length : Int) then (if ((rdOf false l0 x8_1) != (rdOf false l0 (ji7))) = true then (some false) else (impl_turns.l0 k1 l0 a1 (l0.length : Int) (wrap64 (x8_1 + 1)))) else (none)) else (none)) = some r := by first | (rw [hji7] at H; exact H)
       by_cases c8 : 0 ≤ (ji7)
       ·rw [if_pos c8] at H
        have c8b0 : decide (0 ≤ (ji7)) = true := aH c8
        clear c8
        by_cases c9 : (ji7) < (l0.length : Int)
        ·rw [if_pos c9] at H
         have c9b0 : decide ((ji7) < (l0.length : Int)) = true := aH c9
         clear c9
         by_cases c10 : ((rdOf false l0 x8_1) != (rdOf false l0 (ji7))) = true
         all_goals
          first
          |rw [if_pos c10] at H
           (try (have c10b1 : decide ((rdOf false l0 x8_1) = (rdOf false l0 (ji7))) = false := by simpa using c10))
           (try (have c10b2 : ((rdOf false l0 x8_1) == (rdOf false l0 (ji7))) = false := by simpa using c10))
           (try (have c10b3 : ¬ ((rdOf false l0 x8_1) = (rdOf false l0 (ji7))) := by simpa using c10))
          |rw [if_neg c10] at H
           (try (have c10b1 : decide ((rdOf false l0 x8_1) = (rdOf false l0 (ji7))) = true := by simpa using c10))
           (try (have c10b2 : ((rdOf false l0 x8_1) == (rdOf false l0 (ji7))) = true := by simpa using c10))
          clear c10
          first
          |obtain rfl := bU H
          |have H' := aM H
           clear H
          have p250 : 0 ≤ (x8_1 : Int) := aJ (by (with_reducible assumption))
          have q250 : x8_1 < (l0.length : Int) := aJ (by (with_reducible assumption))
          obtain ⟨ad250, e250, hx250_0⟩ := Kd.at_bool HR0.out x8_1 p250 q250
          cases e250
          replace p250 := eq_true p250
          replace q250 := eq_true q250
          have p251 : 0 ≤ ((ji7) : Int) := aJ (by (with_reducible assumption))
          have q251 : (ji7) < (l0.length : Int) := aJ (by (with_reducible assumption))
          obtain ⟨ad251, e251, hx251_0⟩ := Kd.at_bool HR0.out (ji7) p251 q251
          obtain rfl : ad250 = ad251 := (by injection e251)
          replace p251 := eq_true p251
          replace q251 := eq_true q251
          go_wp2
          repeat (go_quiet (fail); try go_wp2)
          first
          |go_ret
           exact ⟨by first | rfl | (simp [*]; done), by repeat (first | exact Drawn0.refl _ | apply Drawn0.step)⟩
          |go_roundg k1
           case measure => have := HK1.out; omega
           case rel => exact ⟨(wrap64 (x8_1 + 1)), (by rfl), H', ⟨by have := HK1.out; omega⟩, by repeat (first | exact Drawn0.refl _ | apply Drawn0.step)⟩
        ·rw [if_neg c9] at H
         exact absurd H (by simp)
       ·rw [if_neg c8] at H
        exact absurd H (by simp)
     ·rw [if_neg c5] at H
      exact absurd H (by simp)
    ·rw [if_neg c4] at H
     exact absurd H (by simp)
   ·rw [if_neg c3] at H
    have c3b0 : decide (x8_1 < (l0.length : Int)) = false := aK c3
    clear c3
    by_cases c11 : a1 = 0
    ·rw [if_pos c11] at H
     exact absurd H (by simp)
    ·rw [if_neg c11] at H
     obtain rfl := bU H
     go_wp2
     repeat (go_quiet (fail); try go_wp2)
     go_ret
     exact ⟨by first | rfl | (simp [*]; done), by repeat (first | exact Drawn0.refl _ | apply Drawn0.step)⟩


/-- A copy. -/
def slices_Clone_bool_bool.f (l0 : List Bool) : Option (List Bool) := if l0.length < 140737488355328 then some l0 else none
set_option maxHeartbeats 1000000 in
set_option maxRecDepth 100000 in
theorem slices_Clone_bool_bool.calls (A0 : Option Addr) (c0 : Nat) (l0 : List Bool) (r : List Bool) (w : World) (hr0 : Kd.C Kd.bool w A0 l0.length l0) (hc0 : l0.length ≤ c0) (h : slices_Clone_bool_bool.f l0 = some r) :
  Calls Try.prog 79 #[.slice A0 l0.length c0] w fun e w' => ∃ v0_ : Value, e = .returned (v0_) ∧ Kd.R Kd.bool 4 w' w.heap.size (fun _ => True) v0_ r ∧ Below w.heap.size w w' := by
 unfold slices_Clone_bool_bool.f at h
 split at h
 case isFalse => cases h
 rename_i hs
 obtain rfl := bU h
 clear h
 have HR := Lib.hid hr0
 have hrun := Lib.run_eql_slice_nil (P := Try.prog) w 52 4 A0 l0.length c0 0 0 Try.underlying52
 have HC := Lib.hid (Kd.R_nil Kd.bool 4 w w.heap.size (fun _ => True))
 cases A0 with
 | none =>
  have hl : l0.length = 0 := by
   rcases Nat.eq_zero_or_pos l0.length with h | h
   ·exact h
   ·obtain ⟨ad, e, _⟩ := hr0.2.2 h
    cases e
  have hl2 : l0 = [] := List.length_eq_zero_iff.1 hl
  subst hl2
  clear hr0 hl
  simp only [List.length_nil, Option.isNone_none] at hrun
  rw [List.length_nil]
  go_enter Try.func79, Try.ntmps79
  go_wp2
  go_ret
  exact ⟨_, rfl, HC.out, cE _ _⟩
 | some ad =>
  clear hr0
  simp only [Option.isNone_some] at hrun
  go_enter Try.func79, Try.ntmps79
  go_wp2_with (first | ((with_reducible refine aZ (N := 5) rfl ?_); refine Kd.R_lit Kd.bool _ 4 ?hg (N := 5) ?hd (xs := ([] : List Bool)) (inner := []) (ok := fun _ => True) (okp := fun _ => True) ?hr ?hp (fun _ hk => hk) trivial (cE _ _) (cD _) (by simp) ?_; (case hd => rfl); (case hg => rfl); (case hr => first | (go_simp; done)); (case hp => exact (Reps.none _ _)); intro v102 w2 ho3 hb hg_ hnew_; clear hg_ hnew_; have HO := aM ho3; have HB := aM hb; clear ho3 hb) | ((with_reducible refine gate_builtin (b := .append) (xs := #[.tmp 5, .tmp 6]) rfl ?_); at_builtin; refine Kd.R_append_row Value.bool false (w0 := w) w.heap.size rfl (.tmp 5) (.tmp 6) 52 4 (.bool false) 1 rfl Try.underlying52 info4 rfl (by decide) _ [] l0 (some ad) l0.length c0 (fun _ => True) rfl rfl (fun _ _ => trivial) HO.out (bF HR.out HB.out) HB.out HB.out.size (by simp; omega) ?_; intro v103 w3 ho hb hg hat; clear hg hat HB HO; have HB := aM hb; have HO := aM ho; clear ho hb))
  go_ret
  exact ⟨_, rfl, HO.out, HB.out⟩

mutual
def impl_set_tidy.l0 : Nat → Int → List Bool → List Bool → Option (List Bool × List Bool)
 | 0, _, _, _ => none
 | k + 1, x3, x253000, x253001 => (impl_turns.f k x253001 x3).bind fun t254 => (if t254 = true then ((slices_Clone_bool_bool.f x253000).bind fun t255 => (if 0 ≤ x3 then (if x3 ≤ (x253001.length : Int) then ((slices_Clone_bool_bool.f (x253001.take (x3 : Int).toNat)).bind fun t259 => (impl_set_tidy.l1 k x3 t255 t259)) else (none)) else (none))) else (impl_set_tidy.l0 k (wrap64 (x3 + 1)) x253000 x253001))
def impl_set_tidy.l1 : Nat → Int → List Bool → List Bool → Option (List Bool × List Bool)
 | 0, _, _, _ => none
 | k + 1, x3, x4, x5 => if (x4.length : Int) > 0 then (if 0 ≤ (wrap64 ((x4.length : Int) - 1)) then (if (wrap64 ((x4.length : Int) - 1)) < (x4.length : Int) then (if 0 ≤ (wrap64 (x3 - 1)) then (if (wrap64 (x3 - 1)) < (x5.length : Int) then (if ((rdOf false x4 (wrap64 ((x4.length : Int) - 1))) == (rdOf false x5 (wrap64 (x3 - 1)))) = true then (if (wrap64 ((x4.length : Int) - 1)) ≤ (x4.length : Int) then ((some (([rdOf false x5 (wrap64 (x3 - 1))] : List Bool) : List Bool)).bind fun y268 => (if (wrap64 (x3 - 1)) ≤ (x5.length : Int) then ((some (x5.take ((wrap64 (x3 - 1)) : Int).toNat : List Bool)).bind fun y271 => (if y268.length + y271.length < 140737488355328 then (impl_set_tidy.l1 k x3 (x4.take ((wrap64 ((x4.length : Int) - 1)) : Int).toNat) (y268 ++ y271)) else (none))) else (none))) else (none)) else (some (x4, x5))) else (none)) else (none)) else (none)) else (none)) else (some (x4, x5))
end
def impl_set_tidy.f (k : Nat) (l0_0 : List Bool) (l0_1 : List Bool) : Option (List Bool × List Bool) := impl_set_tidy.l0 k 1 l0_0 l0_1
theorem impl_set_tidy.mono_l : ∀ k, (∀ y0 y1 y2, LeO (impl_set_tidy.l0 k y0 y1 y2) (impl_set_tidy.l0 (k + 1) y0 y1 y2)) ∧ (∀ y0 y1 y2, LeO (impl_set_tidy.l1 k y0 y1 y2) (impl_set_tidy.l1 (k + 1) y0 y1 y2))
 | 0 => ⟨fun _ _ _ r h => by simp [impl_set_tidy.l0] at h, fun _ _ _ r h => by simp [impl_set_tidy.l1] at h⟩
 | k + 1 => by
  obtain ⟨ih0, ih1⟩ := impl_set_tidy.mono_l k
  refine ⟨?_, ?_⟩
  ·intro y0 y1 y2
   unfold impl_set_tidy.l0
   repeat' first | (with_reducible exact ih0 _ _ _) | (with_reducible exact ih1 _ _ _) | (with_reducible exact impl_turns.mono _ _ _) | (with_reducible exact LeO.refl _) | (with_reducible refine LeO.ite ?_ ?_) | (with_reducible refine LeO.bind ?_ (fun _ => ?_))
  ·intro y0 y1 y2
   unfold impl_set_tidy.l1
   repeat' first | (with_reducible exact ih1 _ _ _) | (with_reducible exact LeO.refl _) | (with_reducible refine LeO.ite ?_ ?_) | (with_reducible refine LeO.bind ?_ (fun _ => ?_))
theorem impl_set_tidy.mono : ∀ a0 a1 k, LeO (impl_set_tidy.f k a0 a1) (impl_set_tidy.f (k + 1) a0 a1) := by
 intro a0 a1 k
 obtain ⟨ih0, ih1⟩ := impl_set_tidy.mono_l k
 unfold impl_set_tidy.f
 repeat' (with_reducible exact ih0 _ _ _)
def impl_set_tidy.T4 : Bool × List (List Nat × List Nat) := (true, [([], []), ([0], [0]), ([1], [1]), ([], []), ([3], [3]), ([], []), ([4, 5], [4, 5]), ([6, 2], [6]), ([2, 7, 0, 1, 2], [2]), ([7, 8, 0, 1, 2, 3, 4, 5, 6, 7, 8], [7])])
def impl_set_tidy.B4 : List Nat := [0, 1, 3, 0, 8, 0, 56, 127, 255, 511]
theorem impl_set_tidy.tab4 : rtab .any (opsOf Try.f59 4) = impl_set_tidy.T4 := by kernel_rfl
theorem impl_set_tidy.bits4 : waitsOk impl_set_tidy.T4.2 impl_set_tidy.B4 = true := by kernel_rfl
def impl_set_tidy.T7 : Bool × List (List Nat × List Nat) := (true, [([], []), ([], []), ([1], [1]), ([0, 2], [0, 2]), ([3], [3]), ([4], [4]), ([], []), ([], []), ([7], [7]), ([6, 8], [6, 8]), ([5, 9], [5, 9]), ([10, 10, 0, 1, 2, 3, 4, 5, 6, 7, 8, 9, 10], [0, 6, 10])])
def impl_set_tidy.B7 : List Nat := [0, 0, 2, 7, 15, 31, 0, 0, 128, 448, 1023, 2047]
theorem impl_set_tidy.tab7 : rtab .any (opsOf Try.f59 7) = impl_set_tidy.T7 := by kernel_rfl
theorem impl_set_tidy.bits7 : waitsOk impl_set_tidy.T7.2 impl_set_tidy.B7 = true := by kernel_rfl
set_option maxHeartbeats 8000000 in
set_option maxRecDepth 100000 in
theorem impl_set_tidy.calls (k : Nat) (A0_0 : Option Addr) (c0_0 : Nat) (l0_0 : List Bool) (A0_1 : Option Addr) (c0_1 : Nat) (l0_1 : List Bool) (r1 : List Bool) (r2 : List Bool) (w : World) (hr0_0 : Kd.C Kd.bool w A0_0 l0_0.length l0_0) (hc0_0 : l0_0.length ≤ c0_0) (hr0_1 : Kd.C Kd.bool w A0_1 l0_1.length l0_1) (hc0_1 : l0_1.length ≤ c0_1) (h : impl_set_tidy.f k l0_0 l0_1 = some (r1, r2)) :
  Calls Try.prog 59 #[.agg #[.slice A0_0 l0_0.length c0_0, .slice A0_1 l0_1.length c0_1]] w fun e w' => ∃ v0_ v1_ : Value, e = .returned (.agg #[v0_, v1_]) ∧ Kd.R Kd.bool 4 w' w.heap.size (fun k_ => some k_ ≠ (v1_ : Value).ownBlock) v0_ r1 ∧ Kd.R Kd.bool 4 w' w.heap.size (fun k_ => some k_ ≠ (v0_ : Value).ownBlock) v1_ r2 ∧ Below w.heap.size w w' := by
 have HR0_0 := aM hr0_0
 have HC0_0 := aM hc0_0
 clear hr0_0 hc0_0
 have HR0_1 := aM hr0_1
 have HC0_1 := aM hc0_1
 clear hr0_1 hc0_1
 have HB := aM (cE w.heap.size w)
 have H : (impl_set_tidy.l0 k 1 l0_0 l0_1) = some (r1, r2) := h
 clear h
 have H' := aM H
 clear H
 go_enter Try.func59, Try.ntmps59
 go_wp2_with (first | ((with_reducible refine aZ (N := 1) rfl ?_); (try (refine gate_guard (by rfl) ?_; dsimp only)); refine bB ?hg (N := 1) ?hd (cs := #[.slice A0_0 l0_0.length c0_0, .slice A0_1 l0_1.length c0_1]) (t := 56) ?hr ?_; (case hd => rfl); (case hg => rfl); (case hr => first | (go_simp; done)); intro gb252 hg w2 hbox hb; have BK252 := aM hbox; replace HB := aM (aE HB.out hb); clear hb hbox hg) | ((with_reducible refine aZ (N := 2) rfl ?_); (try (refine gate_guard (by rfl) ?_; dsimp only)); refine bB ?hg (N := 2) ?hd (cs := #[.slice none 0 0, .slice none 0 0]) (t := 56) ?hr ?_; (case hd => rfl); (case hg => rfl); (case hr => first | (go_simp; done)); intro gb253 hg w3 hbox hb; have BK253 := aM hbox; have GE253 := aM ((by rw [hg]; exact (aG HB.out) : w.heap.size ≤ gb253)); replace HB := aM (aE HB.out hb); replace BK252 := aM (aD (g := gb252) (o := .cells #[.slice A0_0 l0_0.length c0_0, .slice A0_1 l0_1.length c0_1] 56 (0, 0)) BK252.out hb); clear hb hbox hg))
 go_loopg [3] k (fun kq v3 w' => ∃ (x3_1 : Int), v3 = .int .i64 x3_1 ∧ Aside0 (impl_set_tidy.l0 kq x3_1 l0_0 l0_1 = some (r1, r2)) ∧ Aside0 (kq ≤ k) ∧ Aside0 (w'.heap[gb252]? = some (.cells #[(.slice A0_0 l0_0.length c0_0), (.slice A0_1 l0_1.length c0_1)] 56 (0, 0))) ∧ Aside0 (w'.heap[gb253]? = some (.cells #[(.slice none 0 0), (.slice none 0 0)] 56 (0, 0))) ∧ Aside0 (Below w.heap.size w w'))
 case atStart => exact ⟨(1), (by rfl), H', ⟨cD _⟩, ⟨by exact BK252.out⟩, ⟨by exact BK253.out⟩, ⟨HB.out⟩⟩
 case round =>
  clear H'
  obtain ⟨x3_1, rfl, HA, HK1, BK252, BK253, HB⟩ := hrel
  cases gk with
  | zero => exact absurd HA.out (by simp [impl_set_tidy.l0])
  | succ k1 =>
   have H := HA.out
   clear HA
   simp only [impl_set_tidy.l0] at H
   replace H := Option.bind_eq_some_iff.mp H
   obtain ⟨t254, A40, H⟩ := H
   replace H : (if t254 = true then ((slices_Clone_bool_bool.f l0_0).bind fun t255 => (if 0 ≤ x3_1 then (if x3_1 ≤ (l0_1.length : Int) then ((slices_Clone_bool_bool.f (l0_1.take (x3_1 : Int).toNat)).bind fun t259 => (impl_set_tidy.l1 k1 x3_1 t255 t259)) else (none)) else (none))) else (impl_set_tidy.l0 k1 (wrap64 (x3_1 + 1)) l0_0 l0_1)) = some (r1, r2) := H
   have A4 := aM A40
   clear A40
   by_cases c5 : t254 = true
   ·subst c5
    replace H : ((slices_Clone_bool_bool.f l0_0).bind fun t255 => (if 0 ≤ x3_1 then (if x3_1 ≤ (l0_1.length : Int) then ((slices_Clone_bool_bool.f (l0_1.take (x3_1 : Int).toNat)).bind fun t259 => (impl_set_tidy.l1 k1 x3_1 t255 t259)) else (none)) else (none))) = some (r1, r2) := by rw [if_pos rfl] at H; exact H
    replace H := Option.bind_eq_some_iff.mp H
    obtain ⟨t255, A60, H⟩ := H
    replace H : (if 0 ≤ x3_1 then (if x3_1 ≤ (l0_1.length : Int) then ((slices_Clone_bool_bool.f (l0_1.take (x3_1 : Int).toNat)).bind fun t259 => (impl_set_tidy.l1 k1 x3_1 t255 t259)) else (none)) else (none)) = some (r1, r2) := H
    have A6 := aM A60
    clear A60
    by_cases c7 : 0 ≤ x3_1
    ·rw [if_pos c7] at H
     have c7b0 := eq_true c7
     have c7b1 : decide (0 ≤ x3_1) = true := aH c7
     clear c7
     by_cases c8 : x3_1 ≤ (l0_1.length : Int)
     ·rw [if_pos c8] at H
      have c8b0 := eq_true c8
      have c8b1 : decide (x3_1 ≤ (l0_1.length : Int)) = true := aH c8
      clear c8
      replace H := Option.bind_eq_some_iff.mp H
      obtain ⟨t259, A90, H⟩ := H
      replace H : (impl_set_tidy.l1 k1 x3_1 t255 t259) = some (r1, r2) := H
      have A9 := aM A90
      clear A90
      have H' := aM H
      clear H
      have hcz11_0 : wr.cell? ⟨gb252, 0, none⟩ = some (.slice A0_0 l0_0.length c0_0) := (aA BK252.out 0).trans rfl
      have hcz11_1 : wr.cell? ⟨gb252, 1, none⟩ = some (.slice A0_1 l0_1.length c0_1) := (aA BK252.out 1).trans rfl
      have hfz11_0 := aC BK252.out 0
      have hfz11_1 := aC BK252.out 1
      try go_wp2_with (first | ((with_reducible refine aY (f := 78) rfl ?_); refine gL 9 Try.func78 #[.slice A0_1 l0_1.length c0_1, .int .i64 x3_1] ?_; (with_reducible refine (impl_turns.calls k1 _ _ l0_1 x3_1 true _ ?side1 ?side2 A4.out).mono ?_); (case side1 => repeat (exact (bF HR0_1.out HB.out))); (case side2 => exact HC0_1.out); rintro e w' ⟨rfl, ⟨nd, rfl⟩⟩; refine ⟨_, rfl, ?_⟩))
      (try (rw [drewN_self wr]; generalize hq_ : World.drewN wr _ = wr; have n0_ : Aside0 (wr.heap[gb252]? = some (.cells #[.slice A0_0 l0_0.length c0_0, .slice A0_1 l0_1.length c0_1] 56 (0, 0))) := ⟨by rw [← hq_]; exact (by (with_reducible repeat (refine kN ?_ _)); exact BK252.out)⟩; have n1_ : Aside0 (wr.heap[gb253]? = some (.cells #[.slice none 0 0, .slice none 0 0] 56 (0, 0))) := ⟨by rw [← hq_]; exact (by (with_reducible repeat (refine kN ?_ _)); exact BK253.out)⟩; have n2_ : Aside0 (Below w.heap.size w wr) := ⟨by rw [← hq_]; exact (by repeat (first | (with_reducible first | exact HB.out | apply bN)))⟩; clear BK252 BK253 HB hq_; have BK252 := n0_; have BK253 := n1_; have HB := n2_; clear n0_ n1_ n2_))
      replace BK252 := aM (kD BK252.out)
      replace BK253 := aM (kD BK253.out)
      replace HB := aM (b1 HB.out)
      obtain ⟨i013, hi013, _, hsz13, _⟩ := info_parts info4
      obtain ⟨hcut13, hA13, hC13⟩ := print_take_of (P := Try.prog) Value.bool false 52 4 .i64 Try.underlying52 hi013 hsz13 A0_1 c0_1 l0_1 x3_1 (aJ (by (with_reducible assumption))) (aJ (by (with_reducible assumption))) HC0_1.out
      have HR258 := aM (cP (h1 := fun _ => rfl) (hA13 _ (Kd.reads_of_C HR0_1.out)))
      have HC258 := aM hC13
      clear hA13 hC13 hi013 hsz13
      refine start_ (n := 10) (S := fun w' => w'.cell? ⟨gb252, 0, none⟩ = some (.slice A0_0 l0_0.length c0_0) ∧ w'.cell? ⟨gb252, 1, none⟩ = some (.slice A0_1 l0_1.length c0_1)) (ds := []) #[false, false, false, false, false, false, false, false, false, false] (by kernel_rfl) rfl rfl ⟨(aA BK252.out 0).trans rfl, (aA BK252.out 1).trans rfl⟩ (fun hHeld => ?_); refine with_tabW impl_set_tidy.tab4 impl_set_tidy.bits4 (fun HT_ HW_ => ?_)
      generalize wr.drew = w12 at BK252 BK253 HB HR258 hHeld ⊢
      refine pQ 0 13 HT_ ?_
      refine pQ 3 16 HT_ ?_
      refine pQ 5 18 HT_ ?_
      refine tQ 1 14 HT_ HW_ hHeld ?_
      refine tQ 4 17 HT_ HW_ hHeld ?_
      refine pQ 6 19 HT_ ?_
      refine oQ 2 15 HT_ (fun K hK => ?_)
      refine gO Try.func79 #[.slice A0_0 l0_0.length c0_0] ?_
      with_reducible refine (slices_Clone_bool_bool.calls _ _ l0_0 t255 _ ?side1 ?side2 A6.out).mono ?_
      (case side1 => repeat (exact (bF HR0_0.out HB.out)))
      (case side2 => exact HC0_0.out)
      rintro e w14 ⟨v256, rfl, ho0, hb⟩
      refine ⟨_, rfl, ?_⟩
      have HO257 := aM (bP ho0 (aG HB.out))
      replace BK252 := aM (aD (g := gb252) (o := .cells #[.slice A0_0 l0_0.length c0_0, .slice A0_1 l0_1.length c0_1] 56 (0, 0)) BK252.out hb)
      replace BK253 := aM (aD (g := gb253) (o := .cells #[.slice none 0 0, .slice none 0 0] 56 (0, 0)) BK253.out hb)
      replace HB := aM (aE HB.out hb)
      (try clear hb)
      (try clear ho0)
      refine hK.out _ _ ⟨(aA BK252.out 0).trans rfl, (aA BK252.out 1).trans rfl⟩ (fun hHeld => ?_)
      clear hK K
      refine nQ ?_
      refine oQ 7 20 HT_ (fun K hK => ?_)
      refine gO Try.func79 #[.slice A0_1 (l0_1.take (x3_1 : Int).toNat).length c0_1] (hargs := (by (try simp only [aN, aQ, aT]); first | (rw [show (l0_1.take (x3_1 : Int).toNat).length = x3_1.toNat from (by rw [List.length_take]; have h_ : (x3_1 : Int) ≤ (l0_1.length : Int) := aJ (by (with_reducible assumption)); omega)] <;> rfl))) ?_
      with_reducible refine (slices_Clone_bool_bool.calls _ _ (l0_1.take (x3_1 : Int).toNat) t259 _ ?side1 ?side2 A9.out).mono ?_
      (case side1 => repeat (exact (bF HR258.out HB.out)))
      (case side2 => exact HC258.out)
      rintro e w15 ⟨v260, rfl, ho0, hb⟩
      refine ⟨_, rfl, ?_⟩
      have HO261 := aM (bP (Kd.R_new' ho0 (Kd.R_lt HO257.out)) (aG HB.out))
      replace HO257 := aM (Kd.R_elder' HO257.out (Kd.R_base ho0) hb)
      replace BK252 := aM (aD (g := gb252) (o := .cells #[.slice A0_0 l0_0.length c0_0, .slice A0_1 l0_1.length c0_1] 56 (0, 0)) BK252.out hb)
      replace BK253 := aM (aD (g := gb253) (o := .cells #[.slice none 0 0, .slice none 0 0] 56 (0, 0)) BK253.out hb)
      replace HB := aM (aE HB.out hb)
      (try clear hb)
      (try clear ho0)
      refine hK.out _ _ ⟨(aA BK252.out 0).trans rfl, (aA BK252.out 1).trans rfl⟩ (fun hHeld => ?_)
      clear hK K
      refine nQ ?_
      refine pQ 8 4 HT_ ?_
      refine pQ 9 5 HT_ ?_
      refine done_ (done_of HT_.out (by kernel_rfl)) ?_
      try go_wp2
      go_loopg [4, 5] k1 (fun kq v4 v5 w' => ∃ (x4_2 : List Bool) (x5_2 : List Bool), Aside0 (impl_set_tidy.l1 kq x3_1 x4_2 x5_2 = some (r1, r2)) ∧ Aside0 (kq ≤ k1) ∧ Aside0 (Kd.R Kd.bool 4 w' w.heap.size (fun k_ => some k_ ≠ (v5 : Value).ownBlock) v4 x4_2) ∧ Aside0 (Kd.R Kd.bool 4 w' w.heap.size (fun k_ => some k_ ≠ (v4 : Value).ownBlock) v5 x5_2) ∧ Aside0 (w'.heap[gb252]? = some (.cells #[(.slice A0_0 l0_0.length c0_0), (.slice A0_1 l0_1.length c0_1)] 56 (0, 0))) ∧ Aside0 (w'.heap[gb253]? = some (.cells #[(.slice none 0 0), (.slice none 0 0)] 56 (0, 0))) ∧ Aside0 (Below w.heap.size w w'))
      case atStart => exact ⟨(t255), (t259), H', ⟨cD _⟩, ⟨by exact bJ HO257.out (fun _ hk => hk.2)⟩, ⟨by exact bJ HO261.out (fun _ hk => hk.2)⟩, ⟨by exact BK252.out⟩, ⟨by exact BK253.out⟩, ⟨HB.out⟩⟩
      case round =>
       clear H'
       try clear c7b0
       try clear c7b1
       try clear c8b0
       try clear c8b1
       try clear hcz11_0
       try clear hcz11_1
       try clear hfz11_0
       try clear hfz11_1
       obtain ⟨x4_2, x5_2, HA, HK2, HO_4, HO_5, BK252, BK253, HB⟩ := hrel
       cases gk with
       | zero => exact absurd HA.out (by simp [impl_set_tidy.l1])
       | succ k2 =>
        have H := HA.out
        clear HA
        simp only [impl_set_tidy.l1] at H
        by_cases c16 : (x4_2.length : Int) > 0
        ·rw [if_pos c16] at H
         have c16b1 : decide (0 < x4_2.length) = true := aH (by omega)
         clear c16
         obtain ⟨ji17, hji17⟩ : ∃ j_ : Int, (wrap64 ((x4_2.length : Int) - 1)) = j_ := ⟨_, rfl⟩
         replace H : (if 0 ≤ (ji17) then (if (ji17) < (x4_2.length : Int) then (if 0 ≤ (wrap64 (x3_1 - 1)) then (if (wrap64 (x3_1 - 1)) < (x5_2.length : Int) then (if ((rdOf false x4_2 (ji17)) == (rdOf false x5_2 (wrap64 (x3_1 - 1)))) = true then (if (ji17) ≤ (x4_2.length : Int) then ((some (([rdOf false x5_2 (wrap64 (x3_1 - 1))] : List Bool) : List Bool)).bind fun y268 => (if (wrap64 (x3_1 - 1)) ≤ (x5_2.length : Int) then ((some (x5_2.take ((wrap64 (x3_1 - 1)) : Int).toNat : List Bool)).bind fun y271 => (if y268.length + y271.length < 140737488355328 then (impl_set_tidy.l1 k2 x3_1 (x4_2.take ((ji17) : Int).toNat) (y268 ++ y271)) else (none))) else (none))) else (none)) else (some (x4_2, x5_2))) else (none)) else (none)) else (none)) else (none)) = some (r1, r2) := by first | (rw [hji17] at H; exact H)
         have hji17w : (IntKind.i64.wrap ((x4_2.length : Int) - 1)) = ji17 := (cS _).trans hji17
         by_cases c18 : 0 ≤ (ji17)
         ·rw [if_pos c18] at H
          have c18b0 : decide (0 ≤ (ji17)) = true := aH c18
          clear c18
          by_cases c19 : (ji17) < (x4_2.length : Int)
          ·rw [if_pos c19] at H
           have c19b0 : decide ((ji17) < (x4_2.length : Int)) = true := aH c19
           clear c19
           obtain ⟨ji20, hji20⟩ : ∃ j_ : Int, (wrap64 (x3_1 - 1)) = j_ := ⟨_, rfl⟩
           replace H : (if 0 ≤ (ji20) then (if (ji20) < (x5_2.length : Int) then (if ((rdOf false x4_2 (ji17)) == (rdOf false x5_2 (ji20))) = true then (if (ji17) ≤ (x4_2.length : Int) then ((some (([rdOf false x5_2 (ji20)] : List Bool) : List Bool)).bind fun y268 => (if (ji20) ≤ (x5_2.length : Int) then ((some (x5_2.take ((ji20) : Int).toNat : List Bool)).bind fun y271 => (if y268.length + y271.length < 140737488355328 then (impl_set_tidy.l1 k2 x3_1 (x4_2.take ((ji17) : Int).toNat) (y268 ++ y271)) else (none))) else (none))) else (none)) else (some (x4_2, x5_2))) else (none)) else (none)) = some (r1, r2) := by first | (rw [hji20] at H; exact H)
           have hji20w : (IntKind.i64.wrap (x3_1 - 1)) = ji20 := (cS _).trans hji20
           by_cases c21 : 0 ≤ (ji20)
           ·rw [if_pos c21] at H
            have c21b0 : decide (0 ≤ (ji20)) = true := aH c21
            clear c21
            by_cases c22 : (ji20) < (x5_2.length : Int)
            ·rw [if_pos c22] at H
             have c22b0 : decide ((ji20) < (x5_2.length : Int)) = true := aH c22
             clear c22
             by_cases c23 : ((rdOf false x4_2 (ji17)) == (rdOf false x5_2 (ji20))) = true
             ·rw [if_pos c23] at H
              have c23b0 : ((rdOf false x4_2 (ji17)) == (rdOf false x5_2 (ji20))) = true := c23
              (try (have c23b1 : decide ((rdOf false x4_2 (ji17)) = (rdOf false x5_2 (ji20))) = true := by simpa using c23))
              (try (have c23b2 : ((rdOf false x4_2 (ji17)) == (rdOf false x5_2 (ji20))) = true := by simpa using c23))
              clear c23
              by_cases c24 : (ji17) ≤ (x4_2.length : Int)
              ·rw [if_pos c24] at H
               have c24b1 : decide ((ji17) ≤ (x4_2.length : Int)) = true := aH c24
               clear c24
               obtain ⟨y264, hy264⟩ : ∃ y_ : List Bool, y_ = (x4_2.take ((ji17) : Int).toNat) := ⟨_, rfl⟩
               replace H : ((some (([rdOf false x5_2 (ji20)] : List Bool) : List Bool)).bind fun y268 => (if (ji20) ≤ (x5_2.length : Int) then ((some (x5_2.take ((ji20) : Int).toNat : List Bool)).bind fun y271 => (if y268.length + y271.length < 140737488355328 then (impl_set_tidy.l1 k2 x3_1 y264 (y268 ++ y271)) else (none))) else (none))) = some (r1, r2) := by first | (rw [hy264]; with_reducible exact H)
               have Ny264 := aM hy264
               clear hy264
               obtain ⟨y268, hy268⟩ : ∃ y_ : List Bool, y_ = (([rdOf false x5_2 (ji20)] : List Bool)) := ⟨_, rfl⟩
               replace H : (if (ji20) ≤ (x5_2.length : Int) then ((some (x5_2.take ((ji20) : Int).toNat : List Bool)).bind fun y271 => (if y268.length + y271.length < 140737488355328 then (impl_set_tidy.l1 k2 x3_1 y264 (y268 ++ y271)) else (none))) else (none)) = some (r1, r2) := by first | (have H2_ := (bR _ _).symm.trans H; rw [hy268]; with_reducible exact H2_)
               have Ny268 := aM hy268
               clear hy268
               have c25b0 := eq_true (aJ (by (with_reducible assumption)) : 0 ≤ (ji20))
               by_cases c26 : (ji20) ≤ (x5_2.length : Int)
               ·rw [if_pos c26] at H
                have c26b1 : decide ((ji20) ≤ (x5_2.length : Int)) = true := aH c26
                clear c26
                obtain ⟨y271, hy271⟩ : ∃ y_ : List Bool, y_ = (x5_2.take ((ji20) : Int).toNat) := ⟨_, rfl⟩
                replace H : (if y268.length + y271.length < 140737488355328 then (impl_set_tidy.l1 k2 x3_1 y264 (y268 ++ y271)) else (none)) = some (r1, r2) := by first | (have H2_ := (bR _ _).symm.trans H; rw [hy271]; with_reducible exact H2_)
                have Ny271 := aM hy271
                clear hy271
                by_cases c27 : y268.length + y271.length < 140737488355328
                ·rw [if_pos c27] at H
                 have LMc27 := aM c27
                 clear c27
                 obtain ⟨y275, hy275⟩ : ∃ y_ : List Bool, y_ = (y268 ++ y271) := ⟨_, rfl⟩
                 replace H : (impl_set_tidy.l1 k2 x3_1 y264 y275) = some (r1, r2) := by first | (rw [hy275]; with_reducible exact H)
                 have Ny275 := aM hy275
                 clear hy275
                 have H' := aM H
                 clear H
                 try go_wp2
                 replace HO_4 := aM (rD HO_4.out)
                 replace HO_5 := aM (rD HO_5.out)
                 replace BK252 := aM (kD BK252.out)
                 replace BK253 := aM (kD BK253.out)
                 replace HB := aM (b1 HB.out)
                 obtain ⟨Ao29, co29, eo29⟩ := bL HO_4.out
                 (subst eo29)
                 have p262 : 0 ≤ ((ji17) : Int) := aJ (by (with_reducible assumption))
                 have q262 : (ji17) < (x4_2.length : Int) := aJ (by (with_reducible assumption))
                 obtain ⟨ad262, e262, hx262_0⟩ := Kd.at_bool (bM HO_4.out).2.2 (ji17) p262 q262
                 cases e262
                 replace p262 := eq_true p262
                 replace q262 := eq_true q262
                 obtain ⟨Ao30, co30, eo30⟩ := bL HO_5.out
                 (subst eo30)
                 have p263 : 0 ≤ ((ji20) : Int) := aJ (by (with_reducible assumption))
                 have q263 : (ji20) < (x5_2.length : Int) := aJ (by (with_reducible assumption))
                 obtain ⟨ad263, e263, hx263_0⟩ := Kd.at_bool (bM HO_5.out).2.2 (ji20) p263 q263
                 cases e263
                 replace q263 := eq_true q263
                 go_region
                 generalize wr.drew = w28 at HO_4 HO_5 BK252 BK253 HB hx262_0 hx263_0 ⊢
                 have q31 : ((ji17) : Int) ≤ ((x4_2.length : Int) : Int) := aJ (by (with_reducible assumption))
                 obtain ⟨i031, hi031, _, hsz31, _⟩ := info_parts info4
                 have hcut31 := cut_to (P := Try.prog) 52 4 .i64 Try.underlying52 hi031 (some ad262) x4_2.length co29 (ji17) (aJ (by (with_reducible assumption))) q31 (bM HO_4.out).2.1
                 have hr31 := Kd.R_take (m := ((ji17) : Int).toNat) HO_4.out (by omega)
                 have hy31 : y264.length = ((ji17) : Int).toNat := (by rw [Ny264.out, List.length_take]; omega)
                 rw [← Ny264.out] at hr31
                 rw [← hy31] at hr31 hcut31
                 clear hy31 hi031 hsz31 HO_4
                 have HO266 := aM hr31
                 clear hr31
                 try go_wp2
                 replace HO266 := aM (rD HO266.out)
                 replace HO_5 := aM (rD HO_5.out)
                 replace BK252 := aM (kD BK252.out)
                 replace BK253 := aM (kD BK253.out)
                 replace HB := aM (b1 HB.out)
                 have p267 : 0 ≤ ((ji20) : Int) := aJ (by (with_reducible assumption))
                 have q267 : (ji20) < (x5_2.length : Int) := aJ (by (with_reducible assumption))
                 obtain ⟨ad267, e267, hx267_0⟩ := Kd.at_bool (bM HO_5.out).2.2 (ji20) p267 q267
                 obtain rfl : ad263 = ad267 := (by injection e267)
                 have q33 : ((ji20) : Int) ≤ ((x5_2.length : Int) : Int) := aJ (by (with_reducible assumption))
                 obtain ⟨i033, hi033, _, hsz33, _⟩ := info_parts info4
                 have hroom33 : x5_2.length ≤ co30 := (bM HO_5.out).2.1
                 have hC33 : Kd.C Kd.bool _ (some ad263) x5_2.length x5_2 := (bM HO_5.out).2.2
                 have hcut33 := cut_to (P := Try.prog) 52 4 .i64 Try.underlying52 hi033 (some ad263) x5_2.length co30 (ji20) (aJ (by (with_reducible assumption))) q33 hroom33
                 have hr33 := Kd.C_take (m := ((ji20) : Int).toNat) hC33 (by omega)
                 have hy33 : y271.length = ((ji20) : Int).toNat := (by rw [Ny271.out, List.length_take]; omega)
                 rw [← Ny271.out] at hr33
                 rw [← hy33] at hcut33
                 have HR274 := aM hr33
                 clear hr33 hC33 hroom33 hi033 hsz33
                 clear hy33
                 refine start_ (n := 12) (S := fun w' => w'.cell? (ad263.add ((ji20)).toNat) = some (.bool (rdOf false x5_2 (ji20)))) (ds := [10]) #[false, false, false, false, false, false, false, false, false, false, false, false] (by kernel_rfl) rfl rfl (hx267_0) (fun hHeld => ?_); refine with_tabW impl_set_tidy.tab7 impl_set_tidy.bits7 (fun HT_ HW_ => ?_)
                 generalize w28.drew = w32 at HO266 HO_5 BK252 BK253 HB HR274 hx267_0 hHeld ⊢
                 refine pQ 0 43 HT_ ?_
                 refine pQ 1 44 HT_ ?_
                 refine pQ 2 45 HT_ ?_
                 refine pQ 3 46 HT_ ?_
                 refine pQ 6 49 HT_ ?_
                 refine pQ 7 50 HT_ ?_
                 refine pQ 8 51 HT_ ?_
                 refine pQ 9 52 HT_ ?_
                 refine take_ (i := 4) (N := some 47) (v := ?_) (a' := ?_) #[true, true, true, true, true, false, true, true, true, true, false, false] rfl rfl (take_ofW HT_.out HW_.out (by kernel_rfl)) (fun _ _ _ h => h) (Or.inl ⟨by rfl, ?_⟩) hHeld ?_ ?_
                 rotate_left
                 ·intro w' s0
                  go_simp
                  with_reducible rfl
                 rotate_left
                 ·simp only [Act.put, sA, sZ, sS, cS, cT]
                  rfl
                 refine oQ 5 48 HT_ (fun K hK => ?_)
                 refine Kd.R_lit_step Kd.bool _ 4 ?hg (N := 48) ?hd (xs := ([rdOf false x5_2 (ji20)] : List Bool)) (inner := [.bool (rdOf false x5_2 (ji20))]) (ok := fun _ => True) (okp := fun _ => True) ?hr ?hp (fun _ hk => hk) trivial (cE _ _) (cD _) (by simp) ?_; (case hd => rfl); (case hg => rfl); (case hr => first | (go_simp; done)); (case hp => exact (Reps.one (show Kd.M Kd.bool _ _ _ (rdOf false x5_2 (ji20)) [.bool (rdOf false x5_2 (ji20))] from rfl) (Reps.none _ _)))
                 intro v269 w34 ho35 hb hg_ hnew_
                 have HS0_ := (hb.cell (World.block_lt_of_cell? _ _ (hHeld))).trans (hHeld)
                 clear hg_ hnew_
                 (rw [← Ny268.out] at ho35)
                 have HO270 := aM (bP (Kd.R_new' (Kd.R_new' ho35 (Kd.R_lt HO266.out)) (Kd.R_lt HO_5.out)) (aG HB.out))
                 replace HO266 := aM (Kd.R_elder' HO266.out (Kd.R_base ho35) hb)
                 replace HO_5 := aM (Kd.R_elder' HO_5.out (Kd.R_base ho35) hb)
                 replace BK252 := aM (aD (g := gb252) (o := .cells #[.slice A0_0 l0_0.length c0_0, .slice A0_1 l0_1.length c0_1] 56 (0, 0)) BK252.out hb)
                 replace BK253 := aM (aD (g := gb253) (o := .cells #[.slice none 0 0, .slice none 0 0] 56 (0, 0)) BK253.out hb)
                 replace HR274 := aM (bF HR274.out hb)
                 replace HB := aM (aE HB.out hb)
                 clear hb ho35
                 refine hK.out _ _ (HS0_) (fun hHeld => ?_)
                 clear hK K
                 refine nQ ?_
                 refine last_ (i := 10) (N := some 53) #[true, true, true, true, true, true, true, true, true, true, true, false] rfl rfl (one_of HT_.out (by kernel_rfl)) (by decide) (fun K hK => ?_)
                 refine Kd.R_append_rows_step Kd.bool (w0 := w) w.heap.size (by rfl) (.tmp 48) (.tmp 52) 52 4 (.bool false) 1 rfl Try.underlying52 info4 rfl (by decide) (by omega) v269 y268 y271 _ _ _ (fun k_ => some k_ ≠ (.slice (some ad262) y264.length co29 : Value).ownBlock ∧ some k_ ≠ (.slice (some ad263) x5_2.length co30 : Value).ownBlock) (fun _ => False) rfl rfl ?aO ?aR (fun _ _ h => h) (fun _ h => h.elim) ?aF ?aB ?aS ?aL ?_
                 (case aR => repeat (exact (by repeat (exact HR274.out))))
                 (case aB => exact HB.out)
                 (case aF => exact (fun k_ hk => ⟨Kd.fresh' (Kd.R_lt HO266.out) k_ hk, Kd.fresh' (Kd.R_lt HO_5.out) k_ hk⟩))
                 (case aO => exact (by exact bJ HO270.out (fun _ hk => ⟨hk.1.2, hk.2⟩)))
                 (case aS => exact (aG HB.out))
                 (case aL => have := LMc27.out; omega)
                 intro v276 w36 ho hb hg hat
                 rw [← Ny275.out] at ho
                 replace HO266 := aM (cJ (ok := (fun k_ => some k_ ≠ (.slice (some ad263) x5_2.length co30 : Value).ownBlock)) HO266.out hg hat)
                 replace BK252 := aM (blk_grown (g := gb252) (o := .cells #[.slice A0_0 l0_0.length c0_0, .slice A0_1 l0_1.length c0_1] 56 (0, 0)) BK252.out hg (Kd.R_ne HO270.out BK252.out (by decide)))
                 replace BK253 := aM (blk_grown (g := gb253) (o := .cells #[.slice none 0 0, .slice none 0 0] 56 (0, 0)) BK253.out hg (Kd.R_ne HO270.out BK253.out (by decide)))
                 replace HB := aM hb
                 have HO277 := aM ho
                 clear HO270
                 clear ho hb hg hat
                 refine hK.out _ _ ?_
                 clear hK K
                 refine nQ ?_
                 refine pQ 11 5 HT_ ?_
                 refine done_ (done_of HT_.out (by kernel_rfl)) ?_
                 try go_wp2
                 go_roundg k2
                 case measure => have := HK1.out; have := HK2.out; omega
                 case rel => exact ⟨(y264), (y275), H', ⟨by have := HK1.out; have := HK2.out; omega⟩, ⟨by exact bJ HO266.out (fun _ hk => hk.2)⟩, ⟨by exact bJ HO277.out (fun _ hk => hk.1)⟩, ⟨by exact BK252.out⟩, ⟨by exact BK253.out⟩, ⟨HB.out⟩⟩
                ·rw [if_neg c27] at H
                 exact absurd H (by simp)
               ·rw [if_neg c26] at H
                exact absurd H (by simp)
              ·rw [if_neg c24] at H
               exact absurd H (by simp)
             ·rw [if_neg c23] at H
              have c23b0 : ((rdOf false x4_2 (ji17)) == (rdOf false x5_2 (ji20))) = false := by simpa using c23
              (try (have c23b1 : decide ((rdOf false x4_2 (ji17)) = (rdOf false x5_2 (ji20))) = false := by simpa using c23))
              (try (have c23b2 : ((rdOf false x4_2 (ji17)) == (rdOf false x5_2 (ji20))) = false := by simpa using c23))
              (try (have c23b3 : ¬ ((rdOf false x4_2 (ji17)) = (rdOf false x5_2 (ji20))) := by simpa using c23))
              clear c23
              simp only [aV, aW] at H
              obtain ⟨rfl, rfl⟩ := H
              try go_wp2
              replace HO_4 := aM (rD HO_4.out)
              replace HO_5 := aM (rD HO_5.out)
              replace BK252 := aM (kD BK252.out)
              replace BK253 := aM (kD BK253.out)
              replace HB := aM (b1 HB.out)
              obtain ⟨Ao38, co38, eo38⟩ := bL HO_4.out
              (subst eo38)
              have p262 : 0 ≤ ((ji17) : Int) := aJ (by (with_reducible assumption))
              have q262 : (ji17) < (x4_2.length : Int) := aJ (by (with_reducible assumption))
              obtain ⟨ad262, e262, hx262_0⟩ := Kd.at_bool (bM HO_4.out).2.2 (ji17) p262 q262
              cases e262
              replace p262 := eq_true p262
              replace q262 := eq_true q262
              obtain ⟨Ao39, co39, eo39⟩ := bL HO_5.out
              (subst eo39)
              have p263 : 0 ≤ ((ji20) : Int) := aJ (by (with_reducible assumption))
              have q263 : (ji20) < (x5_2.length : Int) := aJ (by (with_reducible assumption))
              obtain ⟨ad263, e263, hx263_0⟩ := Kd.at_bool (bM HO_5.out).2.2 (ji20) p263 q263
              cases e263
              replace p263 := eq_true p263
              replace q263 := eq_true q263
              go_region
              generalize wr.drew = w37 at HO_4 HO_5 BK252 BK253 HB hx262_0 hx263_0 ⊢
              have hcz41_0 : w37.cell? ⟨gb253, 0, none⟩ = some (.slice none 0 0) := (aA BK253.out 0).trans rfl
              have hcz41_1 : w37.cell? ⟨gb253, 1, none⟩ = some (.slice none 0 0) := (aA BK253.out 1).trans rfl
              have hfz41_0 := aC BK253.out 0
              have hfz41_1 := aC BK253.out 1
              try go_wp2
              refine cF (results_cell_row rfl _ _ gb253 56 #[.slice (some ad262) x4_2.length co38, .slice (some ad263) x5_2.length co39] (0, 0) _ rfl (by refine bV (cs := #[.slice (some ad262) x4_2.length co38, .slice none 0 0]) ?_ 1 _ rfl; refine bV (cs := #[.slice none 0 0, .slice none 0 0]) ?_ 0 _ rfl; exact BK253.out) Try.underlying56 rfl (by kernel_rfl)) rfl ?_
              exact ⟨_, _, by first | rfl | (simp [*, errW_none, errW_some] <;> rfl), by exact bJ (bC (p := ⟨gb253, 1, none⟩) (bC (p := ⟨gb253, 0, none⟩) (bE HO_4.out BK253.out (by decide)) (fun _ hk => hk.2) (.slice (some ad262) x4_2.length co38)) (fun _ hk => hk.2) (.slice (some ad263) x5_2.length co39)) (fun _ hk => hk.1), by exact bJ (bC (p := ⟨gb253, 1, none⟩) (bC (p := ⟨gb253, 0, none⟩) (bE HO_5.out BK253.out (by decide)) (fun _ hk => hk.2) (.slice (some ad262) x4_2.length co38)) (fun _ hk => hk.2) (.slice (some ad263) x5_2.length co39)) (fun _ hk => hk.1), by repeat (first | (with_reducible first | exact HB.out | refine bS ?_ GE253.out))⟩
            ·rw [if_neg c22] at H
             exact absurd H (by simp)
           ·rw [if_neg c21] at H
            exact absurd H (by simp)
          ·rw [if_neg c19] at H
           exact absurd H (by simp)
         ·rw [if_neg c18] at H
          exact absurd H (by simp)
        ·rw [if_neg c16] at H
         have c16b1 : decide (0 < x4_2.length) = false := aK (by omega)
         clear c16
         simp only [aV, aW] at H
         obtain ⟨rfl, rfl⟩ := H
         try go_wp2
         replace HO_4 := aM (rD HO_4.out)
         replace HO_5 := aM (rD HO_5.out)
         replace BK252 := aM (kD BK252.out)
         replace BK253 := aM (kD BK253.out)
         replace HB := aM (b1 HB.out)
         obtain ⟨Ao43, co43, eo43⟩ := bL HO_4.out
         (subst eo43)
         go_region
         generalize wr.drew = w42 at HO_4 HO_5 BK252 BK253 HB ⊢
         obtain ⟨Ao44, co44, eo44⟩ := bL HO_5.out
         subst eo44
         have hcz46_0 : w42.cell? ⟨gb253, 0, none⟩ = some (.slice none 0 0) := (aA BK253.out 0).trans rfl
         have hcz46_1 : w42.cell? ⟨gb253, 1, none⟩ = some (.slice none 0 0) := (aA BK253.out 1).trans rfl
         have hfz46_0 := aC BK253.out 0
         have hfz46_1 := aC BK253.out 1
         try go_wp2
         refine cF (results_cell_row rfl _ _ gb253 56 #[.slice Ao43 x4_2.length co43, .slice Ao44 x5_2.length co44] (0, 0) _ rfl (by refine bV (cs := #[.slice Ao43 x4_2.length co43, .slice none 0 0]) ?_ 1 _ rfl; refine bV (cs := #[.slice none 0 0, .slice none 0 0]) ?_ 0 _ rfl; exact BK253.out) Try.underlying56 rfl (by kernel_rfl)) rfl ?_
         exact ⟨_, _, by first | rfl | (simp [*, errW_none, errW_some] <;> rfl), by exact bJ (bC (p := ⟨gb253, 1, none⟩) (bC (p := ⟨gb253, 0, none⟩) (bE HO_4.out BK253.out (by decide)) (fun _ hk => hk.2) (.slice Ao43 x4_2.length co43)) (fun _ hk => hk.2) (.slice Ao44 x5_2.length co44)) (fun _ hk => hk.1), by exact bJ (bC (p := ⟨gb253, 1, none⟩) (bC (p := ⟨gb253, 0, none⟩) (bE HO_5.out BK253.out (by decide)) (fun _ hk => hk.2) (.slice Ao43 x4_2.length co43)) (fun _ hk => hk.2) (.slice Ao44 x5_2.length co44)) (fun _ hk => hk.1), by repeat (first | (with_reducible first | exact HB.out | refine bS ?_ GE253.out))⟩
     ·rw [if_neg c8] at H
      exact absurd H (by simp)
    ·rw [if_neg c7] at H
     exact absurd H (by simp)
   ·replace c5 := Bool.eq_false_iff.mpr c5
    subst c5
    replace H : (impl_set_tidy.l0 k1 (wrap64 (x3_1 + 1)) l0_0 l0_1) = some (r1, r2) := by rw [if_neg (show ¬ (false = true) by decide)] at H; exact H
    have H' := aM H
    clear H
    have hcz48_1 : wr.cell? ⟨gb252, 1, none⟩ = some (.slice A0_1 l0_1.length c0_1) := (aA BK252.out 1).trans rfl
    go_wp2_with (first | ((with_reducible refine aY (f := 78) rfl ?_); refine gL 9 Try.func78 #[.slice A0_1 l0_1.length c0_1, .int .i64 x3_1] ?_; (with_reducible refine (impl_turns.calls k1 _ _ l0_1 x3_1 false _ ?side1 ?side2 A4.out).mono ?_); (case side1 => repeat (exact (bF HR0_1.out HB.out))); (case side2 => exact HC0_1.out); rintro e w' ⟨rfl, ⟨nd, rfl⟩⟩; refine ⟨_, rfl, ?_⟩))
    go_roundg k1
    case measure => have := HK1.out; omega
    case rel => exact ⟨(wrap64 (x3_1 + 1)), (by rfl), H', ⟨by have := HK1.out; omega⟩, ⟨by (with_reducible repeat (refine kN ?_ _)); exact BK252.out⟩, ⟨by (with_reducible repeat (refine kN ?_ _)); exact BK253.out⟩, ⟨by repeat (first | (with_reducible first | exact HB.out | apply bN))⟩⟩


def impl_tidied.f (k : Nat) (a0 : ByteArray) : Option (List Bool × List Bool × Bool) := (impl_setOf.f a0).bind fun bt279 => (if bt279.2.2 = true then ((impl_set_tidy.f k bt279.1 bt279.2.1).bind fun bt287 => (some (bt287.1, bt287.2, true))) else (some (([] : List Bool), ([] : List Bool), false)))
set_option maxHeartbeats 8000000 in
set_option maxRecDepth 100000 in
theorem impl_tidied.calls (k : Nat) (a0 : ByteArray) (r1 : List Bool) (r2 : List Bool) (r3 : Bool) (w : World) (h : impl_tidied.f k a0 = some (r1, r2, r3)) :
  Calls Try.prog 36 #[.string a0] w fun e w' => ∃ v0_ v1_ : Value, e = .returned (.tuple #[.agg #[v0_, v1_], .bool r3]) ∧ Kd.R Kd.bool 4 w' w.heap.size (fun k_ => some k_ ≠ (v1_ : Value).ownBlock) v0_ r1 ∧ Kd.R Kd.bool 4 w' w.heap.size (fun k_ => some k_ ≠ (v0_ : Value).ownBlock) v1_ r2 ∧ Below w.heap.size w w' := by
 have HB := aM (cE w.heap.size w)
 have H : ((impl_setOf.f a0).bind fun bt279 => (if bt279.2.2 = true then ((impl_set_tidy.f k bt279.1 bt279.2.1).bind fun bt287 => (some (bt287.1, bt287.2, true))) else (some (([] : List Bool), ([] : List Bool), false)))) = some (r1, r2, r3) := h
 clear h
 replace H := Option.bind_eq_some_iff.mp H
 obtain ⟨⟨t279, t282, t285⟩, A20, H⟩ := H
 replace H : (if t285 = true then ((impl_set_tidy.f k t279 t282).bind fun bt287 => (some (bt287.1, bt287.2, true))) else (some (([] : List Bool), ([] : List Bool), false))) = some (r1, r2, r3) := H
 have A2 := aM A20
 clear A20
 by_cases c3 : t285 = true
 ·subst c3
  replace H : ((impl_set_tidy.f k t279 t282).bind fun bt287 => (some (bt287.1, bt287.2, true))) = some (r1, r2, r3) := by rw [if_pos rfl] at H; exact H
  replace H := Option.bind_eq_some_iff.mp H
  obtain ⟨⟨t287, t290⟩, A40, H⟩ := H
  replace H : (some (t287, t290, true)) = some (r1, r2, r3) := H
  have A4 := aM A40
  clear A40
  simp only [aV, aW] at H
  obtain ⟨rfl, rfl, rfl⟩ := H
  go_enter Try.func36, Try.ntmps36
  go_wp2_with (first | ((with_reducible refine aZ (N := 2) rfl ?_); refine bB ?hg (N := 2) ?hd (cs := #[.slice none 0 0, .slice none 0 0]) (t := 56) ?hr ?_; (case hd => rfl); (case hg => rfl); (case hr => first | (go_simp; done)); intro gb278 hg w5 hbox hb; have BK278 := aM hbox; have GE278 := aM ((by rw [hg]; exact (aG HB.out) : w.heap.size ≤ gb278)); replace HB := aM (aE HB.out hb); clear hb hbox hg) | ((with_reducible refine aY (f := 32) rfl ?_); refine gL 8 Try.func32 #[.string a0] ?_; (with_reducible refine (impl_setOf.calls a0 t279 t282 true _ A2.out).mono ?_); rintro e w6 ⟨v280, v283, rfl, ho0, ho1, hb⟩; refine ⟨_, rfl, ?_⟩; have HO281 := aM (bP ho0 (aG HB.out)); have HO284 := aM (bP ho1 (aG HB.out)); replace BK278 := aM (aD (g := gb278) (o := .cells #[.slice none 0 0, .slice none 0 0] 56 (0, 0)) BK278.out hb); replace HB := aM (aE HB.out hb); (try clear hb); (try clear ho0); (try clear ho1)) | ((with_reducible refine aZ (N := 4) rfl ?_); refine bB ?hg (N := 4) ?hd (cs := #[.slice none 0 0, .slice none 0 0]) (t := 56) ?hr ?_; (case hd => rfl); (case hg => rfl); (case hr => first | (go_simp; done)); intro gb286 hg w7 hbox hb; replace HO281 := aM (bG HO281.out hb); replace HO284 := aM (bG HO284.out hb); have BK286 := aM hbox; have GE286 := aM ((by rw [hg]; exact (aG HB.out) : w.heap.size ≤ gb286)); replace HB := aM (aE HB.out hb); have NB278_286 := aM ((by rw [hg]; exact Nat.ne_of_lt (blk_lt (g := gb278) (o := .cells #[.slice none 0 0, .slice none 0 0] 56 (0, 0)) BK278.out) : gb278 ≠ gb286)); replace BK278 := aM (aD (g := gb278) (o := .cells #[.slice none 0 0, .slice none 0 0] 56 (0, 0)) BK278.out hb); clear hb hbox hg; obtain ⟨Ao8, co8, eo8⟩ := bL HO281.out; subst eo8; have hcz10_0 : w7.cell? ⟨gb286, 0, none⟩ = some (.slice none 0 0) := (aA BK286.out 0).trans rfl; have hcz10_1 : w7.cell? ⟨gb286, 1, none⟩ = some (.slice none 0 0) := (aA BK286.out 1).trans rfl; have hfz10_0 := aC BK286.out 0; have hfz10_1 := aC BK286.out 1; obtain ⟨Ao11, co11, eo11⟩ := bL HO284.out; subst eo11) | ((with_reducible refine aY (f := 59) rfl ?_); refine gL 15 Try.func59 #[.agg #[.slice Ao8 t279.length co8, .slice Ao11 t282.length co11]] ?_; (with_reducible refine (impl_set_tidy.calls k _ _ t279 _ _ t282 t287 t290 _ ?side1 ?side2 ?side3 ?side4 A4.out).mono ?_); (case side1 => refine (bM (e := 4) (base := w.heap.size) (ok := fun k_ => some k_ ≠ (.slice Ao11 t282.length co11 : Value).ownBlock) (n := t279.length) (c := co8) ?_).2.2; exact (by exact (bJ (bC (p := ⟨gb286, 1, none⟩) (bC (p := ⟨gb286, 0, none⟩) (bE HO281.out BK286.out (by decide)) (fun _ hk => hk.2) (.slice Ao8 t279.length co8)) (fun _ hk => hk.2) (.slice Ao11 t282.length co11)) (fun _ h_ => h_.1)))); (case side2 => exact (bM HO281.out).2.1); (case side3 => refine (bM (e := 4) (base := w.heap.size) (ok := fun k_ => some k_ ≠ (.slice Ao8 t279.length co8 : Value).ownBlock) (n := t282.length) (c := co11) ?_).2.2; exact (by exact (bJ (bC (p := ⟨gb286, 1, none⟩) (bC (p := ⟨gb286, 0, none⟩) (bE HO284.out BK286.out (by decide)) (fun _ hk => hk.2) (.slice Ao8 t279.length co8)) (fun _ hk => hk.2) (.slice Ao11 t282.length co11)) (fun _ h_ => h_.1)))); (case side4 => exact (bM HO284.out).2.1); rintro e w12 ⟨v288, v291, rfl, ho0, ho1, hb⟩; refine ⟨_, rfl, ?_⟩; have HO289 := aM (bP (Kd.R_new' (Kd.R_new' ho0 (Kd.R_lt (by exact (bJ (bC (p := ⟨gb286, 1, none⟩) (bC (p := ⟨gb286, 0, none⟩) (bE HO281.out BK286.out (by decide)) (fun _ hk => hk.2) (.slice Ao8 t279.length co8)) (fun _ hk => hk.2) (.slice Ao11 t282.length co11)) (fun _ h_ => h_.1))))) (Kd.R_lt (by exact (bJ (bC (p := ⟨gb286, 1, none⟩) (bC (p := ⟨gb286, 0, none⟩) (bE HO284.out BK286.out (by decide)) (fun _ hk => hk.2) (.slice Ao8 t279.length co8)) (fun _ hk => hk.2) (.slice Ao11 t282.length co11)) (fun _ h_ => h_.1))))) (aG (by repeat (first | (with_reducible first | exact HB.out | refine bS ?_ GE286.out))))); have HO292 := aM (bP (Kd.R_new' (Kd.R_new' ho1 (Kd.R_lt (by exact (bJ (bC (p := ⟨gb286, 1, none⟩) (bC (p := ⟨gb286, 0, none⟩) (bE HO281.out BK286.out (by decide)) (fun _ hk => hk.2) (.slice Ao8 t279.length co8)) (fun _ hk => hk.2) (.slice Ao11 t282.length co11)) (fun _ h_ => h_.1))))) (Kd.R_lt (by exact (bJ (bC (p := ⟨gb286, 1, none⟩) (bC (p := ⟨gb286, 0, none⟩) (bE HO284.out BK286.out (by decide)) (fun _ hk => hk.2) (.slice Ao8 t279.length co8)) (fun _ hk => hk.2) (.slice Ao11 t282.length co11)) (fun _ h_ => h_.1))))) (aG (by repeat (first | (with_reducible first | exact HB.out | refine bS ?_ GE286.out))))); replace HO281 := aM (bJ (Kd.R_told (Kd.R_told (Kd.R_old (by exact (bJ (bC (p := ⟨gb286, 1, none⟩) (bC (p := ⟨gb286, 0, none⟩) (bE HO281.out BK286.out (by decide)) (fun _ hk => hk.2) (.slice Ao8 t279.length co8)) (fun _ hk => hk.2) (.slice Ao11 t282.length co11)) (fun _ h_ => h_.1))) hb) (Kd.R_base ho0)) (Kd.R_base ho1)) (fun _ h_ => h_.1)); replace HO284 := aM (bJ (Kd.R_told (Kd.R_told (Kd.R_old (by exact (bJ (bC (p := ⟨gb286, 1, none⟩) (bC (p := ⟨gb286, 0, none⟩) (bE HO284.out BK286.out (by decide)) (fun _ hk => hk.2) (.slice Ao8 t279.length co8)) (fun _ hk => hk.2) (.slice Ao11 t282.length co11)) (fun _ h_ => h_.1))) hb) (Kd.R_base ho0)) (Kd.R_base ho1)) (fun _ h_ => h_.1)); replace BK278 := aM (aD (g := gb278) (o := .cells #[.slice none 0 0, .slice none 0 0] 56 (0, 0)) (by refine cL ?_ NB278_286.out _; refine cL ?_ NB278_286.out _; exact BK278.out) hb); replace HB := aM (aE (by repeat (first | (with_reducible first | exact HB.out | refine bS ?_ GE286.out))) hb); (try clear hb); (try clear ho0); (try clear ho1); obtain ⟨Ao13, co13, eo13⟩ := bL HO289.out; subst eo13; have hcz14_0 : w12.cell? ⟨gb278, 0, none⟩ = some (.slice none 0 0) := (aA BK278.out 0).trans rfl; have hcz14_1 : w12.cell? ⟨gb278, 1, none⟩ = some (.slice none 0 0) := (aA BK278.out 1).trans rfl; have hfz14_0 := aC BK278.out 0; have hfz14_1 := aC BK278.out 1; obtain ⟨Ao15, co15, eo15⟩ := bL HO292.out; subst eo15))
  refine cF (cG rfl _ _ gb278 56 #[.slice Ao13 t287.length co13, .slice Ao15 t290.length co15] (0, 0) _ rfl (by refine bV (cs := #[.slice Ao13 t287.length co13, .slice none 0 0]) ?_ 1 _ rfl; refine bV (cs := #[.slice none 0 0, .slice none 0 0]) ?_ 0 _ rfl; exact BK278.out) Try.underlying56 rfl (by kernel_rfl)) rfl ?_
  exact ⟨_, _, by first | rfl | (simp [*, errW_none, errW_some] <;> rfl), by exact bJ (bC (p := ⟨gb278, 1, none⟩) (bC (p := ⟨gb278, 0, none⟩) (bE HO289.out BK278.out (by decide)) (fun _ hk => hk.2) (.slice Ao13 t287.length co13)) (fun _ hk => hk.2) (.slice Ao15 t290.length co15)) (fun _ hk => hk.1.1.1), by exact bJ (bC (p := ⟨gb278, 1, none⟩) (bC (p := ⟨gb278, 0, none⟩) (bE HO292.out BK278.out (by decide)) (fun _ hk => hk.2) (.slice Ao13 t287.length co13)) (fun _ hk => hk.2) (.slice Ao15 t290.length co15)) (fun _ hk => hk.1.1.1), by repeat (first | (with_reducible first | exact HB.out | refine bS ?_ GE278.out))⟩
 ·replace c3 := Bool.eq_false_iff.mpr c3
  subst c3
  replace H : (some (([] : List Bool), ([] : List Bool), false)) = some (r1, r2, r3) := by rw [if_neg (show ¬ (false = true) by decide)] at H; exact H
  simp only [aV, aW] at H
  obtain ⟨rfl, rfl, rfl⟩ := H
  go_enter Try.func36, Try.ntmps36
  go_wp2_with (first | ((with_reducible refine aZ (N := 2) rfl ?_); refine bB ?hg (N := 2) ?hd (cs := #[.slice none 0 0, .slice none 0 0]) (t := 56) ?hr ?_; (case hd => rfl); (case hg => rfl); (case hr => first | (go_simp; done)); intro gb278 hg w16 hbox hb; have BK278 := aM hbox; have GE278 := aM ((by rw [hg]; exact (aG HB.out) : w.heap.size ≤ gb278)); replace HB := aM (aE HB.out hb); clear hb hbox hg) | ((with_reducible refine aY (f := 32) rfl ?_); refine gL 8 Try.func32 #[.string a0] ?_; (with_reducible refine (impl_setOf.calls a0 t279 t282 false _ A2.out).mono ?_); rintro e w17 ⟨v280, v283, rfl, ho0, ho1, hb⟩; refine ⟨_, rfl, ?_⟩; have HO281 := aM (bP ho0 (aG HB.out)); have HO284 := aM (bP ho1 (aG HB.out)); replace BK278 := aM (aD (g := gb278) (o := .cells #[.slice none 0 0, .slice none 0 0] 56 (0, 0)) BK278.out hb); replace HB := aM (aE HB.out hb); (try clear hb); (try clear ho0); (try clear ho1)) | ((with_reducible refine aZ (N := 4) rfl ?_); refine bB ?hg (N := 4) ?hd (cs := #[.slice none 0 0, .slice none 0 0]) (t := 56) ?hr ?_; (case hd => rfl); (case hg => rfl); (case hr => first | (go_simp; done)); intro gb286 hg w18 hbox hb; replace HO281 := aM (bG HO281.out hb); replace HO284 := aM (bG HO284.out hb); have BK286 := aM hbox; have GE286 := aM ((by rw [hg]; exact (aG HB.out) : w.heap.size ≤ gb286)); replace HB := aM (aE HB.out hb); have NB278_286 := aM ((by rw [hg]; exact Nat.ne_of_lt (blk_lt (g := gb278) (o := .cells #[.slice none 0 0, .slice none 0 0] 56 (0, 0)) BK278.out) : gb278 ≠ gb286)); replace BK278 := aM (aD (g := gb278) (o := .cells #[.slice none 0 0, .slice none 0 0] 56 (0, 0)) BK278.out hb); clear hb hbox hg; obtain ⟨Ao19, co19, eo19⟩ := bL HO281.out; subst eo19; have hnc20 := NB278_286.out; have hcz21_0 : w18.cell? ⟨gb286, 0, none⟩ = some (.slice none 0 0) := (aA BK286.out 0).trans rfl; have hcz21_1 : w18.cell? ⟨gb286, 1, none⟩ = some (.slice none 0 0) := (aA BK286.out 1).trans rfl; have hfz21_0 := aC BK286.out 0; have hfz21_1 := aC BK286.out 1; obtain ⟨Ao22, co22, eo22⟩ := bL HO284.out; subst eo22; have hcz23_0 : w18.cell? ⟨gb278, 0, none⟩ = some (.slice none 0 0) := (aA BK278.out 0).trans rfl; have hcz23_1 : w18.cell? ⟨gb278, 1, none⟩ = some (.slice none 0 0) := (aA BK278.out 1).trans rfl; have hfz23_0 := aC BK278.out 0; have hfz23_1 := aC BK278.out 1))
  refine cF (cG rfl _ _ gb278 56 #[.slice none 0 0, .slice none 0 0] (0, 0) _ rfl (by refine bV (cs := #[.slice none 0 0, .slice none 0 0]) ?_ 1 _ rfl; refine bV (cs := #[.slice none 0 0, .slice none 0 0]) ?_ 0 _ rfl; refine cL ?_ NB278_286.out _; refine cL ?_ NB278_286.out _; exact BK278.out) Try.underlying56 rfl (by kernel_rfl)) rfl ?_
  exact ⟨_, _, by first | rfl | (simp [*, errW_none, errW_some] <;> rfl), by first | exact Kd.R_nil _ _ _ _ _ | exact Kd.S_nil _ _ _ _ _, by first | exact Kd.R_nil _ _ _ _ _ | exact Kd.S_nil _ _ _ _ _, by repeat (first | (with_reducible first | exact HB.out | refine bS ?_ GE278.out | refine bS ?_ GE286.out))⟩


def impl_small.f (k : Nat) (a0 : ByteArray) : Option (List Bool × List Bool × Bool) := (impl_tidied.f k a0).bind fun bt294 => (if bt294.2.2 = true then (if (bt294.1.length : Int) ≤ 8 then (some (bt294.1, bt294.2.1, decide ((bt294.2.1.length : Int) ≤ 8))) else (some (bt294.1, bt294.2.1, false))) else (some (bt294.1, bt294.2.1, false)))
def impl_small.T2 : Bool × List (List Nat × List Nat) := (true, [([], []), ([], []), ([1], [1]), ([2], [2]), ([3, 2], [2, 3]), ([4, 2], [2, 4]), ([5, 2], [2, 5]), ([2, 6], [2, 6]), ([7, 2], [7]), ([8], [8]), ([9, 8], [8, 9]), ([10, 8], [8, 10]), ([11, 8], [8, 11]), ([8, 12], [8, 12]), ([0, 8, 0], [0]), ([13, 14, 0, 1, 2, 3, 4, 5, 6, 7, 8, 9, 10, 11, 12, 13, 14], [13])])
def impl_small.B2 : List Nat := [0, 0, 2, 6, 14, 30, 62, 126, 254, 510, 1022, 2046, 4094, 8190, 511, 32767]
theorem impl_small.tab2 : rtab .any (opsOf Try.f66 2) = impl_small.T2 := by kernel_rfl
theorem impl_small.bits2 : waitsOk impl_small.T2.2 impl_small.B2 = true := by kernel_rfl
set_option maxHeartbeats 8000000 in
set_option maxRecDepth 100000 in
theorem impl_small.calls (k : Nat) (a0 : ByteArray) (r1 : List Bool) (r2 : List Bool) (r3 : Bool) (w : World) (h : impl_small.f k a0 = some (r1, r2, r3)) :
  Calls Try.prog 66 #[.string a0] w fun e w' => ∃ v0_ v1_ : Value, e = .returned (.tuple #[.agg #[v0_, v1_], .bool r3]) ∧ Kd.R Kd.bool 4 w' w.heap.size (fun k_ => some k_ ≠ (v1_ : Value).ownBlock) v0_ r1 ∧ Kd.R Kd.bool 4 w' w.heap.size (fun k_ => some k_ ≠ (v0_ : Value).ownBlock) v1_ r2 ∧ Below w.heap.size w w' := by
 have HB := aM (cE w.heap.size w)
 have H : ((impl_tidied.f k a0).bind fun bt294 => (if bt294.2.2 = true then (if (bt294.1.length : Int) ≤ 8 then (some (bt294.1, bt294.2.1, decide ((bt294.2.1.length : Int) ≤ 8))) else (some (bt294.1, bt294.2.1, false))) else (some (bt294.1, bt294.2.1, false)))) = some (r1, r2, r3) := h
 clear h
 replace H := Option.bind_eq_some_iff.mp H
 obtain ⟨⟨t294, t297, t300⟩, A20, H⟩ := H
 replace H : (if t300 = true then (if (t294.length : Int) ≤ 8 then (some (t294, t297, decide ((t297.length : Int) ≤ 8))) else (some (t294, t297, false))) else (some (t294, t297, false))) = some (r1, r2, r3) := H
 have A2 := aM A20
 clear A20
 by_cases c3 : t300 = true
 ·subst c3
  replace H : (if (t294.length : Int) ≤ 8 then (some (t294, t297, decide ((t297.length : Int) ≤ 8))) else (some (t294, t297, false))) = some (r1, r2, r3) := by rw [if_pos rfl] at H; exact H
  by_cases c4 : (t294.length : Int) ≤ 8
  all_goals
   first
   |rw [if_pos c4] at H
    have c4b0 : decide ((t294.length : Int) ≤ 8) = true := aH c4
   |rw [if_neg c4] at H
    have c4b0 : decide ((t294.length : Int) ≤ 8) = false := aK c4
   clear c4
   simp only [aV, aW] at H
   obtain ⟨rfl, rfl, rfl⟩ := H
   go_enter Try.func66, Try.ntmps66
   try go_wp2_with (first | ((with_reducible refine aZ (N := 2) rfl ?_); (try (refine gate_guard (by rfl) ?_; dsimp only)); refine bB ?hg (N := 2) ?hd (cs := #[.slice none 0 0, .slice none 0 0]) (t := 56) ?hr ?_; (case hd => rfl); (case hg => rfl); (case hr => first | (go_simp; done)); intro gb293 hg w5 hbox hb; have BK293 := aM hbox; have GE293 := aM ((by rw [hg]; exact (aG HB.out) : w.heap.size ≤ gb293)); replace HB := aM (aE HB.out hb); clear hb hbox hg) | ((with_reducible refine aY (f := 36) rfl ?_); refine gL 8 Try.func36 #[.string a0] ?_; (with_reducible refine (impl_tidied.calls k a0 t294 t297 true _ A2.out).mono ?_); rintro e w6 ⟨v295, v298, rfl, ho0, ho1, hb⟩; refine ⟨_, rfl, ?_⟩; have HO296 := aM (bP ho0 (aG HB.out)); have HO299 := aM (bP ho1 (aG HB.out)); replace BK293 := aM (aD (g := gb293) (o := .cells #[.slice none 0 0, .slice none 0 0] 56 (0, 0)) BK293.out hb); replace HB := aM (aE HB.out hb); (try clear hb); (try clear ho0); (try clear ho1)) | ((with_reducible refine aZ (N := 4) rfl ?_); (try (refine gate_guard (by rfl) ?_; dsimp only)); refine bB ?hg (N := 4) ?hd (cs := #[.slice none 0 0, .slice none 0 0]) (t := 56) ?hr ?_; (case hd => rfl); (case hg => rfl); (case hr => first | (go_simp; done)); intro gb301 hg w7 hbox hb; replace HO296 := aM (bG HO296.out hb); replace HO299 := aM (bG HO299.out hb); have BK301 := aM hbox; have GE301 := aM ((by rw [hg]; exact (aG HB.out) : w.heap.size ≤ gb301)); replace HB := aM (aE HB.out hb); have NB293_301 := aM ((by rw [hg]; exact Nat.ne_of_lt (blk_lt (g := gb293) (o := .cells #[.slice none 0 0, .slice none 0 0] 56 (0, 0)) BK293.out) : gb293 ≠ gb301)); have NB301_293 := aM ((by rw [hg]; exact Nat.ne_of_gt (blk_lt (g := gb293) (o := .cells #[.slice none 0 0, .slice none 0 0] 56 (0, 0)) BK293.out) : gb301 ≠ gb293)); replace BK293 := aM (aD (g := gb293) (o := .cells #[.slice none 0 0, .slice none 0 0] 56 (0, 0)) BK293.out hb); clear hb hbox hg; obtain ⟨Ao8, co8, eo8⟩ := bL HO296.out; subst eo8; have hcz10_0 : w7.cell? ⟨gb301, 0, none⟩ = some (.slice none 0 0) := (aA BK301.out 0).trans rfl; have hcz10_1 : w7.cell? ⟨gb301, 1, none⟩ = some (.slice none 0 0) := (aA BK301.out 1).trans rfl; have hfz10_0 := aC BK301.out 0; have hfz10_1 := aC BK301.out 1; obtain ⟨Ao11, co11, eo11⟩ := bL HO299.out; subst eo11))
   have n0_ : Aside0 (Kd.R Kd.bool 4 ((w7.setCell ⟨gb301, 0, none⟩ (.slice Ao8 t294.length co8)).setCell ⟨gb301, 1, none⟩ (.slice Ao11 t297.length co11)) w.heap.size (fun k_ => some k_ ≠ (.slice Ao11 t297.length co11 : Value).ownBlock) (.slice Ao8 t294.length co8) t294) := ⟨by exact bJ (bC (p := ⟨gb301, 1, none⟩) (bC (p := ⟨gb301, 0, none⟩) (bE HO296.out BK301.out (by decide)) (fun _ hk => hk.2) (.slice Ao8 t294.length co8)) (fun _ hk => hk.2) (.slice Ao11 t297.length co11)) (fun _ hk => hk.1)⟩
   have n1_ : Aside0 (Kd.R Kd.bool 4 ((w7.setCell ⟨gb301, 0, none⟩ (.slice Ao8 t294.length co8)).setCell ⟨gb301, 1, none⟩ (.slice Ao11 t297.length co11)) w.heap.size (fun k_ => some k_ ≠ (.slice Ao8 t294.length co8 : Value).ownBlock) (.slice Ao11 t297.length co11) t297) := ⟨by exact bJ (bC (p := ⟨gb301, 1, none⟩) (bC (p := ⟨gb301, 0, none⟩) (bE HO299.out BK301.out (by decide)) (fun _ hk => hk.2) (.slice Ao8 t294.length co8)) (fun _ hk => hk.2) (.slice Ao11 t297.length co11)) (fun _ hk => hk.1)⟩
   have n2_ : Aside0 (((w7.setCell ⟨gb301, 0, none⟩ (.slice Ao8 t294.length co8)).setCell ⟨gb301, 1, none⟩ (.slice Ao11 t297.length co11)).heap[gb293]? = some (.cells #[.slice none 0 0, .slice none 0 0] 56 (0, 0))) := ⟨by refine cL ?_ NB293_301.out _; refine cL ?_ NB293_301.out _; exact BK293.out⟩
   have n3_ : Aside0 (((w7.setCell ⟨gb301, 0, none⟩ (.slice Ao8 t294.length co8)).setCell ⟨gb301, 1, none⟩ (.slice Ao11 t297.length co11)).heap[gb301]? = some (.cells #[.slice Ao8 t294.length co8, .slice Ao11 t297.length co11] 56 (0, 0))) := ⟨by refine bV (cs := #[.slice Ao8 t294.length co8, .slice none 0 0]) ?_ 1 _ rfl; refine bV (cs := #[.slice none 0 0, .slice none 0 0]) ?_ 0 _ rfl; exact BK301.out⟩
   have n4_ : Aside0 (Below w.heap.size w ((w7.setCell ⟨gb301, 0, none⟩ (.slice Ao8 t294.length co8)).setCell ⟨gb301, 1, none⟩ (.slice Ao11 t297.length co11))) := ⟨by repeat (first | (with_reducible first | exact HB.out | refine bS ?_ GE301.out))⟩
   (try clear HO296)
   (try clear HO299)
   (try clear BK293)
   (try clear BK301)
   (try clear HB)
   generalize ((w7.setCell ⟨gb301, 0, none⟩ (.slice Ao8 t294.length co8)).setCell ⟨gb301, 1, none⟩ (.slice Ao11 t297.length co11)) = w12 at n0_ n1_ n2_ n3_ n4_ ⊢
   have HO296 := n0_
   have HO299 := n1_
   have BK293 := n2_
   have BK301 := n3_
   have HB := n4_
   clear n0_ n1_ n2_ n3_ n4_
   replace HO296 := aM (rD HO296.out)
   replace HO299 := aM (rD HO299.out)
   replace BK293 := aM (kD BK293.out)
   replace BK301 := aM (kD BK301.out)
   replace HB := aM (b1 HB.out)
   refine start_ (n := 16) (S := fun w' => w'.cell? ⟨gb301, 0, none⟩ = some (.slice Ao8 t294.length co8) ∧ w'.cell? ⟨gb301, 1, none⟩ = some (.slice Ao11 t297.length co11)) (ds := []) #[false, false, false, false, false, false, false, false, false, false, false, false, false, false, false, false] (by kernel_rfl) rfl rfl ⟨(aA BK301.out 0).trans rfl, (aA BK301.out 1).trans rfl⟩ (fun hHeld => ?_); refine with_tabW impl_small.tab2 impl_small.bits2 (fun HT_ HW_ => ?_)
   generalize w12.drew = w13 at HO296 HO299 BK293 BK301 HB hHeld ⊢
   refine pQ 1 12 HT_ ?_
   refine pQ 2 13 HT_ ?_
   refine pQ 3 14 HT_ ?_
   refine tQ 0 11 HT_ HW_ hHeld ?_
   refine tQ 4 15 HT_ HW_ hHeld ?_
   refine pQ 5 16 HT_ ?_
   refine pQ 6 17 HT_ ?_
   refine pQ 7 18 HT_ ?_
   refine pQ 8 19 HT_ ?_
   first
   |refine pure_ (i := 9) (N := some 20) (v := ?_) (a' := ?_) #[true, true, true, true, true, true, true, true, true, true, false, false, false, false, false, false] rfl rfl (any_of HT_.out (by kernel_rfl)) (fun _ _ _ h => h) (Or.inl ⟨by rfl, ?_⟩) ?_ ?_
    rotate_left
    ·intro w'
     go_simp
     with_reducible rfl
   |refine pure_ (i := 9) (N := some 20) (v := undef) (a' := ?_) #[true, true, true, true, true, true, true, true, true, true, false, false, false, false, false, false] rfl rfl (any_of HT_.out (by kernel_rfl)) (fun _ _ _ h => h) (Or.inr ⟨by rfl, rfl⟩) ?_ ?_
   rotate_left
   ·simp only [Act.put, sA, sZ, sS, cS, cT]
    rfl
   first
   |refine take_ (i := 10) (N := some 21) (v := ?_) (a' := ?_) #[true, true, true, true, true, true, true, true, true, true, true, false, false, false, false, false] rfl rfl (take_ofW HT_.out HW_.out (by kernel_rfl)) (fun _ _ _ h => h) (Or.inl ⟨by rfl, ?_⟩) hHeld ?_ ?_
    rotate_left
    ·rintro w' ⟨s0, s1⟩
     go_simp
     with_reducible rfl
   |refine pure_ (i := 10) (N := some 21) (v := undef) (a' := ?_) #[true, true, true, true, true, true, true, true, true, true, true, false, false, false, false, false] rfl rfl (any_of HT_.out (by kernel_rfl)) (fun _ _ _ h => h) (Or.inr ⟨by rfl, rfl⟩) ?_ ?_
   rotate_left
   ·simp only [Act.put, sA, sZ, sS, cS, cT]
    rfl
   first
   |refine pure_ (i := 11) (N := some 22) (v := ?_) (a' := ?_) #[true, true, true, true, true, true, true, true, true, true, true, true, false, false, false, false] rfl rfl (any_of HT_.out (by kernel_rfl)) (fun _ _ _ h => h) (Or.inl ⟨by rfl, ?_⟩) ?_ ?_
    rotate_left
    ·intro w'
     go_simp
     with_reducible rfl
   |refine pure_ (i := 11) (N := some 22) (v := undef) (a' := ?_) #[true, true, true, true, true, true, true, true, true, true, true, true, false, false, false, false] rfl rfl (any_of HT_.out (by kernel_rfl)) (fun _ _ _ h => h) (Or.inr ⟨by rfl, rfl⟩) ?_ ?_
   rotate_left
   ·simp only [Act.put, sA, sZ, sS, cS, cT]
    rfl
   first
   |refine pure_ (i := 12) (N := some 23) (v := ?_) (a' := ?_) #[true, true, true, true, true, true, true, true, true, true, true, true, true, false, false, false] rfl rfl (any_of HT_.out (by kernel_rfl)) (fun _ _ _ h => h) (Or.inl ⟨by rfl, ?_⟩) ?_ ?_
    rotate_left
    ·intro w'
     go_simp
     with_reducible rfl
   |refine pure_ (i := 12) (N := some 23) (v := undef) (a' := ?_) #[true, true, true, true, true, true, true, true, true, true, true, true, true, false, false, false] rfl rfl (any_of HT_.out (by kernel_rfl)) (fun _ _ _ h => h) (Or.inr ⟨by rfl, rfl⟩) ?_ ?_
   rotate_left
   ·simp only [Act.put, sA, sZ, sS, cS, cT]
    rfl
   refine pQ 13 24 HT_ ?_
   refine one_ (i := 14) (N := none) #[true, true, true, true, true, true, true, true, true, true, true, true, true, true, true, false] rfl rfl (one_of HT_.out (by kernel_rfl)) (by decide) (fun K hK => ?_)
   have hs14 : w13.cell? ⟨gb293, 0, none⟩ = some (.slice none 0 0) := (aA BK293.out 0).trans rfl
   have hfs14 := aC BK293.out 0
   have hs15 : w13.cell? ⟨gb293, 1, none⟩ = some (.slice none 0 0) := (aA BK293.out 1).trans rfl
   have hfs15 := aC BK293.out 1
   refine skip_ (w1 := ?_) (by rfl) rfl ?_ ?_
   rotate_left
   ·go_simp
    rfl
   refine hK.out _ _ ⟨((cell_far (p := ⟨gb293, _, none⟩) NB301_293.out _).trans (((cell_far (p := ⟨gb293, _, none⟩) NB301_293.out _).trans (hHeld.1)))), ((cell_far (p := ⟨gb293, _, none⟩) NB301_293.out _).trans (((cell_far (p := ⟨gb293, _, none⟩) NB301_293.out _).trans (hHeld.2))))⟩ (fun hHeld => ?_)
   clear hK K
   refine pQ 15 3 HT_ ?_
   refine done_ (done_of HT_.out (by kernel_rfl)) ?_
   try go_wp2
   refine cF (cG rfl _ _ gb293 56 #[.slice Ao8 t294.length co8, .slice Ao11 t297.length co11] (0, 0) _ rfl (by refine bV (cs := #[.slice Ao8 t294.length co8, .slice none 0 0]) ?_ 1 _ rfl; refine bV (cs := #[.slice none 0 0, .slice none 0 0]) ?_ 0 _ rfl; exact BK293.out) Try.underlying56 rfl (by kernel_rfl)) rfl ?_
   exact ⟨_, _, by first | rfl | (simp [*, errW_none, errW_some] <;> rfl), by exact bJ (bC (p := ⟨gb293, 1, none⟩) (bC (p := ⟨gb293, 0, none⟩) (bE HO296.out BK293.out (by decide)) (fun _ hk => hk.2) (.slice Ao8 t294.length co8)) (fun _ hk => hk.2) (.slice Ao11 t297.length co11)) (fun _ hk => hk.1), by exact bJ (bC (p := ⟨gb293, 1, none⟩) (bC (p := ⟨gb293, 0, none⟩) (bE HO299.out BK293.out (by decide)) (fun _ hk => hk.2) (.slice Ao8 t294.length co8)) (fun _ hk => hk.2) (.slice Ao11 t297.length co11)) (fun _ hk => hk.1), by repeat (first | (with_reducible first | exact HB.out | refine bS ?_ GE293.out))⟩
 ·replace c3 := Bool.eq_false_iff.mpr c3
  subst c3
  replace H : (some (t294, t297, false)) = some (r1, r2, r3) := by rw [if_neg (show ¬ (false = true) by decide)] at H; exact H
  simp only [aV, aW] at H
  obtain ⟨rfl, rfl, rfl⟩ := H
  go_enter Try.func66, Try.ntmps66
  try go_wp2_with (first | ((with_reducible refine aZ (N := 2) rfl ?_); (try (refine gate_guard (by rfl) ?_; dsimp only)); refine bB ?hg (N := 2) ?hd (cs := #[.slice none 0 0, .slice none 0 0]) (t := 56) ?hr ?_; (case hd => rfl); (case hg => rfl); (case hr => first | (go_simp; done)); intro gb293 hg w27 hbox hb; have BK293 := aM hbox; have GE293 := aM ((by rw [hg]; exact (aG HB.out) : w.heap.size ≤ gb293)); replace HB := aM (aE HB.out hb); clear hb hbox hg) | ((with_reducible refine aY (f := 36) rfl ?_); refine gL 8 Try.func36 #[.string a0] ?_; (with_reducible refine (impl_tidied.calls k a0 t294 t297 false _ A2.out).mono ?_); rintro e w28 ⟨v295, v298, rfl, ho0, ho1, hb⟩; refine ⟨_, rfl, ?_⟩; have HO296 := aM (bP ho0 (aG HB.out)); have HO299 := aM (bP ho1 (aG HB.out)); replace BK293 := aM (aD (g := gb293) (o := .cells #[.slice none 0 0, .slice none 0 0] 56 (0, 0)) BK293.out hb); replace HB := aM (aE HB.out hb); (try clear hb); (try clear ho0); (try clear ho1)) | ((with_reducible refine aZ (N := 4) rfl ?_); (try (refine gate_guard (by rfl) ?_; dsimp only)); refine bB ?hg (N := 4) ?hd (cs := #[.slice none 0 0, .slice none 0 0]) (t := 56) ?hr ?_; (case hd => rfl); (case hg => rfl); (case hr => first | (go_simp; done)); intro gb301 hg w29 hbox hb; replace HO296 := aM (bG HO296.out hb); replace HO299 := aM (bG HO299.out hb); have BK301 := aM hbox; have GE301 := aM ((by rw [hg]; exact (aG HB.out) : w.heap.size ≤ gb301)); replace HB := aM (aE HB.out hb); have NB293_301 := aM ((by rw [hg]; exact Nat.ne_of_lt (blk_lt (g := gb293) (o := .cells #[.slice none 0 0, .slice none 0 0] 56 (0, 0)) BK293.out) : gb293 ≠ gb301)); have NB301_293 := aM ((by rw [hg]; exact Nat.ne_of_gt (blk_lt (g := gb293) (o := .cells #[.slice none 0 0, .slice none 0 0] 56 (0, 0)) BK293.out) : gb301 ≠ gb293)); replace BK293 := aM (aD (g := gb293) (o := .cells #[.slice none 0 0, .slice none 0 0] 56 (0, 0)) BK293.out hb); clear hb hbox hg; obtain ⟨Ao30, co30, eo30⟩ := bL HO296.out; subst eo30; have hcz32_0 : w29.cell? ⟨gb301, 0, none⟩ = some (.slice none 0 0) := (aA BK301.out 0).trans rfl; have hcz32_1 : w29.cell? ⟨gb301, 1, none⟩ = some (.slice none 0 0) := (aA BK301.out 1).trans rfl; have hfz32_0 := aC BK301.out 0; have hfz32_1 := aC BK301.out 1; obtain ⟨Ao33, co33, eo33⟩ := bL HO299.out; subst eo33))
  have n0_ : Aside0 (Kd.R Kd.bool 4 ((w29.setCell ⟨gb301, 0, none⟩ (.slice Ao30 t294.length co30)).setCell ⟨gb301, 1, none⟩ (.slice Ao33 t297.length co33)) w.heap.size (fun k_ => some k_ ≠ (.slice Ao33 t297.length co33 : Value).ownBlock) (.slice Ao30 t294.length co30) t294) := ⟨by exact bJ (bC (p := ⟨gb301, 1, none⟩) (bC (p := ⟨gb301, 0, none⟩) (bE HO296.out BK301.out (by decide)) (fun _ hk => hk.2) (.slice Ao30 t294.length co30)) (fun _ hk => hk.2) (.slice Ao33 t297.length co33)) (fun _ hk => hk.1)⟩
  have n1_ : Aside0 (Kd.R Kd.bool 4 ((w29.setCell ⟨gb301, 0, none⟩ (.slice Ao30 t294.length co30)).setCell ⟨gb301, 1, none⟩ (.slice Ao33 t297.length co33)) w.heap.size (fun k_ => some k_ ≠ (.slice Ao30 t294.length co30 : Value).ownBlock) (.slice Ao33 t297.length co33) t297) := ⟨by exact bJ (bC (p := ⟨gb301, 1, none⟩) (bC (p := ⟨gb301, 0, none⟩) (bE HO299.out BK301.out (by decide)) (fun _ hk => hk.2) (.slice Ao30 t294.length co30)) (fun _ hk => hk.2) (.slice Ao33 t297.length co33)) (fun _ hk => hk.1)⟩
  have n2_ : Aside0 (((w29.setCell ⟨gb301, 0, none⟩ (.slice Ao30 t294.length co30)).setCell ⟨gb301, 1, none⟩ (.slice Ao33 t297.length co33)).heap[gb293]? = some (.cells #[.slice none 0 0, .slice none 0 0] 56 (0, 0))) := ⟨by refine cL ?_ NB293_301.out _; refine cL ?_ NB293_301.out _; exact BK293.out⟩
  have n3_ : Aside0 (((w29.setCell ⟨gb301, 0, none⟩ (.slice Ao30 t294.length co30)).setCell ⟨gb301, 1, none⟩ (.slice Ao33 t297.length co33)).heap[gb301]? = some (.cells #[.slice Ao30 t294.length co30, .slice Ao33 t297.length co33] 56 (0, 0))) := ⟨by refine bV (cs := #[.slice Ao30 t294.length co30, .slice none 0 0]) ?_ 1 _ rfl; refine bV (cs := #[.slice none 0 0, .slice none 0 0]) ?_ 0 _ rfl; exact BK301.out⟩
  have n4_ : Aside0 (Below w.heap.size w ((w29.setCell ⟨gb301, 0, none⟩ (.slice Ao30 t294.length co30)).setCell ⟨gb301, 1, none⟩ (.slice Ao33 t297.length co33))) := ⟨by repeat (first | (with_reducible first | exact HB.out | refine bS ?_ GE301.out))⟩
  (try clear HO296)
  (try clear HO299)
  (try clear BK293)
  (try clear BK301)
  (try clear HB)
  generalize ((w29.setCell ⟨gb301, 0, none⟩ (.slice Ao30 t294.length co30)).setCell ⟨gb301, 1, none⟩ (.slice Ao33 t297.length co33)) = w34 at n0_ n1_ n2_ n3_ n4_ ⊢
  have HO296 := n0_
  have HO299 := n1_
  have BK293 := n2_
  have BK301 := n3_
  have HB := n4_
  clear n0_ n1_ n2_ n3_ n4_
  replace HO296 := aM (rD HO296.out)
  replace HO299 := aM (rD HO299.out)
  replace BK293 := aM (kD BK293.out)
  replace BK301 := aM (kD BK301.out)
  replace HB := aM (b1 HB.out)
  refine start_ (n := 16) (S := fun w' => w'.cell? ⟨gb301, 0, none⟩ = some (.slice Ao30 t294.length co30) ∧ w'.cell? ⟨gb301, 1, none⟩ = some (.slice Ao33 t297.length co33)) (ds := []) #[false, false, false, false, false, false, false, false, false, false, false, false, false, false, false, false] (by kernel_rfl) rfl rfl ⟨(aA BK301.out 0).trans rfl, (aA BK301.out 1).trans rfl⟩ (fun hHeld => ?_); refine with_tabW impl_small.tab2 impl_small.bits2 (fun HT_ HW_ => ?_)
  generalize w34.drew = w35 at HO296 HO299 BK293 BK301 HB hHeld ⊢
  refine pQ 1 12 HT_ ?_
  refine pQ 2 13 HT_ ?_
  refine uQ 3 14 HT_ ?_
  refine uQ 4 15 HT_ ?_
  refine uQ 5 16 HT_ ?_
  refine uQ 6 17 HT_ ?_
  refine pQ 7 18 HT_ ?_
  refine pQ 8 19 HT_ ?_
  refine uQ 9 20 HT_ ?_
  refine uQ 10 21 HT_ ?_
  refine uQ 11 22 HT_ ?_
  refine uQ 12 23 HT_ ?_
  refine pQ 13 24 HT_ ?_
  refine tQ 0 11 HT_ HW_ hHeld ?_
  refine one_ (i := 14) (N := none) #[true, true, true, true, true, true, true, true, true, true, true, true, true, true, true, false] rfl rfl (one_of HT_.out (by kernel_rfl)) (by decide) (fun K hK => ?_)
  have hs36 : w35.cell? ⟨gb293, 0, none⟩ = some (.slice none 0 0) := (aA BK293.out 0).trans rfl
  have hfs36 := aC BK293.out 0
  have hs37 : w35.cell? ⟨gb293, 1, none⟩ = some (.slice none 0 0) := (aA BK293.out 1).trans rfl
  have hfs37 := aC BK293.out 1
  refine skip_ (w1 := ?_) (by rfl) rfl ?_ ?_
  rotate_left
  ·go_simp
   rfl
  refine hK.out _ _ ⟨((cell_far (p := ⟨gb293, _, none⟩) NB301_293.out _).trans (((cell_far (p := ⟨gb293, _, none⟩) NB301_293.out _).trans (hHeld.1)))), ((cell_far (p := ⟨gb293, _, none⟩) NB301_293.out _).trans (((cell_far (p := ⟨gb293, _, none⟩) NB301_293.out _).trans (hHeld.2))))⟩ (fun hHeld => ?_)
  clear hK K
  refine pQ 15 3 HT_ ?_
  refine done_ (done_of HT_.out (by kernel_rfl)) ?_
  try go_wp2
  refine cF (cG rfl _ _ gb293 56 #[.slice Ao30 t294.length co30, .slice Ao33 t297.length co33] (0, 0) _ rfl (by refine bV (cs := #[.slice Ao30 t294.length co30, .slice none 0 0]) ?_ 1 _ rfl; refine bV (cs := #[.slice none 0 0, .slice none 0 0]) ?_ 0 _ rfl; exact BK293.out) Try.underlying56 rfl (by kernel_rfl)) rfl ?_
  exact ⟨_, _, by first | rfl | (simp [*, errW_none, errW_some] <;> rfl), by exact bJ (bC (p := ⟨gb293, 1, none⟩) (bC (p := ⟨gb293, 0, none⟩) (bE HO296.out BK293.out (by decide)) (fun _ hk => hk.2) (.slice Ao30 t294.length co30)) (fun _ hk => hk.2) (.slice Ao33 t297.length co33)) (fun _ hk => hk.1), by exact bJ (bC (p := ⟨gb293, 1, none⟩) (bC (p := ⟨gb293, 0, none⟩) (bE HO299.out BK293.out (by decide)) (fun _ hk => hk.2) (.slice Ao30 t294.length co30)) (fun _ hk => hk.2) (.slice Ao33 t297.length co33)) (fun _ hk => hk.1), by repeat (first | (with_reducible first | exact HB.out | refine bS ?_ GE293.out))⟩


/-- The signs of a list as a text. -/
def impl_told.sgn (b : Bool) : UInt8 := if b = true then 49 else 48
def impl_told.f (l0 : List Bool) : Option ByteArray := if l0.length < 140737488355328 then some ⟨(l0.map impl_told.sgn).toArray⟩ else none
theorem impl_told.size : (Try.prog.info? 104).map (·.size) = some 2 := by kernel_rfl
theorem impl_told.lies : liesAt Try.prog Try.prog.depth 104 (2 / Try.prog.cellsOf 104) 0 104 1 = true := by kernel_rfl
set_option maxHeartbeats 1000000 in
set_option maxRecDepth 100000 in
theorem impl_told.cc_used (b : Nat) (w : World) (h0 : w.cell? ⟨b, 0, none⟩ = some (.pointer (some ⟨b, 0, none⟩))) :
  Calls Try.prog 99 #[.pointer (some ⟨b, 0, none⟩)] w fun e w' => e = .returned (.tuple #[]) ∧ w' = w := by
 obtain ⟨j, hj, _⟩ := Option.map_eq_some_iff.1 impl_told.size
 go_enter Try.func99, Try.ntmps99
 go_wp2
 rw [Lib.run_neq_ptr_same w _ Try.underlying102 hj]
 go_wp2
 go_end0
 exact ⟨rfl, rfl⟩
set_option maxHeartbeats 1000000 in
set_option maxRecDepth 100000 in
theorem impl_told.cc_fresh (b : Nat) (w : World) (h0 : w.cell? ⟨b, 0, none⟩ = some (.pointer none)) (hsh : w.shape? b = some (104, 2)) (hfz : w.frozen? ⟨b, 0, none⟩ = false) :
  Calls Try.prog 99 #[.pointer (some ⟨b, 0, none⟩)] w fun e w' => e = .returned (.tuple #[]) ∧ w' = w.setCell ⟨b, 0, none⟩ (.pointer (some ⟨b, 0, none⟩)) := by
 obtain ⟨j, hj, hjs⟩ := Option.map_eq_some_iff.1 impl_told.size
 go_enter Try.func99, Try.ntmps99
 go_wp2
 rw [Lib.run_to_unsafe w ⟨b, 0, none⟩ Try.underlying102 Try.underlying124 hj (by rw [hjs]; decide) hsh (Nat.zero_lt_succ 1)]
 simp only [Result.andThen]
 rw [Oper.upon_value]
 go_wp2
 rw [run_callFunc_extern Try.func107 (by kernel_rfl) (by kernel_rfl) (by kernel_rfl) (e := Extern.AbiNoEscape.same) (by kernel_rfl)]
 rw [Lib.run_noEscape]
 simp only [Result.andThen]
 rw [Oper.upon_value]
 go_wp2
 rw [Lib.run_from_unsafe w ⟨b, 0, none⟩ Try.underlying124 Try.underlying102 hj hsh impl_told.lies]
 simp only [Result.andThen]
 rw [Oper.upon_value]
 go_wp2
 go_end0
 exact ⟨rfl, rfl⟩
theorem impl_told.cc (B b : Nat) (bs : List Value) (w : World) (h : Lib.IsBuilder 104 5 B b bs w) :
  Calls Try.prog 99 #[.pointer (some ⟨b, 0, none⟩)] w fun e w' => e = .returned (.tuple #[]) ∧ (Lib.BuilderAt 104 5 B b (.pointer (some ⟨b, 0, none⟩)) bs w' ∧ Below B w w') := by
 rcases h with h | h
 ·refine (impl_told.cc_fresh b w h.cell0 h.shape h.frozen0).mono ?_
  rintro e w' ⟨rfl, rfl⟩
  exact ⟨rfl, h.used _, (cE B w).setCell (p := ⟨b, 0, none⟩) h.1 _⟩
 ·refine (impl_told.cc_used b w h.cell0).mono ?_
  rintro e w' ⟨rfl, rfl⟩
  exact ⟨rfl, h, cE B _⟩
set_option maxHeartbeats 2000000 in
set_option maxRecDepth 100000 in
theorem impl_told.wb (B b : Nat) (bs : List Value) (c : Int) (w : World) (h : Lib.IsBuilder 104 5 B b bs w) (hlen : bs.length + 1 ≤ 140737488355328) (hBw : B ≤ w.heap.size) :
  Calls Try.prog 80 #[.pointer (some ⟨b, 0, none⟩), .int .u8 c] w fun e w' => e = .returned .nilIface ∧ (Lib.BuilderAt 104 5 B b (.pointer (some ⟨b, 0, none⟩)) (bs ++ [.int .u8 c]) w' ∧ Below B w w') := by
 obtain ⟨i0, hi, hz0, hz1, hz2⟩ := info_parts (P := Try.prog) (e := 5) info5
 go_enter Try.func80, Try.ntmps80
 go_wp2_with (go_at_call 99; refine (impl_told.cc B b bs _ h).mono ?_)
 rintro e w1 ⟨rfl, h1, hb1⟩
 obtain ⟨hB, v, hbk, hown, hne⟩ := h1
 have c0 : w1.cell? ⟨b, 0, none⟩ = some (.pointer (some ⟨b, 0, none⟩)) := by rw [Lib.cell_of_heap hbk]; rfl
 have c1 : w1.cell? ⟨b, 1, none⟩ = some v := by rw [Lib.cell_of_heap hbk]; rfl
 go_wp2_with (at_builtin; refine wpList_append_own _ rfl _ _ 22 rfl B 5 i0 (.int .u8 0) 1 1 Try.underlying22 hi hz0 hz1 hz2 rfl (by decide) _ _ _ rfl (hown.alloc _) ⟨w1.heap.size, 0, none⟩ 1 1 [.int .u8 c] rfl rfl ?c1 ?c2 ?c3 ?c4 ?c5 ?_)
 case c1 =>
  intro j u hj
  match j, hj with
  | 0, hj => simp at hj; subst hj; simp [Addr.add]
 case c2 => intro u hu; simp at hu; subst hu; rfl
 case c3 => unfold maxLen; omega
 case c4 => omega
 case c5 => have := hb1.size; simp; omega
 intro v' w2 hown' hgrow _
 have hlt : b < w1.heap.size := by
  rcases Nat.lt_or_ge b w1.heap.size with h' | h'
  ·exact h'
  ·simp [Array.getElem?_eq_none h'] at hbk
 have hb2 : w2.heap[b]? = some (.cells #[.pointer (some ⟨b, 0, none⟩), v] 104 (0, 0)) := by
  rw [hgrow.block b (by simp; omega) (fun e => hne e.symm), Lib.alloc_old w1 _ b hlt]
  exact hbk
 have d0 : w2.cell? ⟨b, 0, none⟩ = some (.pointer (some ⟨b, 0, none⟩)) := by rw [Lib.cell_of_heap hb2]; rfl
 have d1 : w2.cell? ⟨b, 1, none⟩ = some v := by rw [Lib.cell_of_heap hb2]; rfl
 have f1 : w2.frozen? ⟨b, 1, none⟩ = false := Lib.frozen_of_heap hb2 1
 obtain ⟨g, cap, rfl⟩ : ∃ g cap, v' = .slice (some ⟨g, 0, none⟩) (bs.length + 1) cap := by
  rcases hown'.2 with ⟨_, h0⟩ | ⟨g, cap, cur, hv, _⟩
  ·omega
  ·exact ⟨g, cap, hv⟩
 go_wp2
 go_ret
 refine ⟨rfl, ?_, ?_⟩
 ·exact Lib.BuilderAt.put (T := 104) (e := 5) hB hb2 (bs' := bs ++ [.int .u8 c]) (by simpa using hown') (by decide)
 ·exact ((hb1.alloc (by have := hb1.size; omega) _).grown hgrow (by have := hb1.size; simp; omega) (fun k hk => (hown.lt k hk).1)).setCell (p := ⟨b, 1, none⟩) hB _
theorem impl_told.take (l : List Bool) (k : Nat) (b : Bool) (h : k < l.length) (e : l.getD k false = b) : Lib.byteCells ((l.take (k + 1)).map impl_told.sgn) = Lib.byteCells ((l.take k).map impl_told.sgn) ++ [.int .u8 ((impl_told.sgn b).toNat : Int)] := by
 rw [List.take_succ_eq_append_getElem h, List.map_append, Lib.byteCells_append]
 have : l[k] = b := by rw [← e]; simp [List.getD, List.getElem?_eq_getElem h]
 rw [this]; rfl
set_option maxHeartbeats 1000000 in
set_option maxRecDepth 100000 in
theorem impl_told.calls (A0 : Option Addr) (c0 : Nat) (l0 : List Bool) (r : ByteArray) (w : World) (hr0 : Kd.C Kd.bool w A0 l0.length l0) (hc0 : l0.length ≤ c0) (h : impl_told.f l0 = some r) :
  Calls Try.prog 60 #[.slice A0 l0.length c0] w fun e w' => e = .returned (.string r) ∧ Below w.heap.size w w' := by
 unfold impl_told.f at h
 split at h
 case isFalse => cases h
 rename_i hs
 obtain rfl := bU h
 clear h
 have HR := Lib.hid (Kd.reads_of_C (d := false) hr0)
 clear hr0 hc0
 go_enter Try.func60, Try.ntmps60
 go_wp2
 go_loopw [8] (fun v8 wr => ∃ k : Nat, k ≤ l0.length ∧ v8 = .int .i64 k ∧ Aside0 (Lib.IsBuilder 104 5 w.heap.size w.heap.size (Lib.byteCells ((l0.take k).map impl_told.sgn)) wr) ∧ Aside0 (Below w.heap.size w wr)) (fun v8 _ => l0.length - (intOf v8).toNat)
 case atStart => exact ⟨0, Nat.zero_le _, rfl, ⟨Lib.fresh_isBuilder 104 5 w⟩, ⟨(cE _ w).alloc (cD _) _⟩⟩
 case round =>
  obtain ⟨k, hk, rfl, HI, HB⟩ := hrel
  by_cases hlt : k < l0.length
  ·obtain ⟨ad, had, hcell⟩ := (ReadsOf.below HR.out HB.out).at_ (k : Int) (by omega) (by omega)
   subst had
   simp only [Int.toNat_natCast] at hcell
   have hlen : (Lib.byteCells ((l0.take k).map impl_told.sgn)).length + 1 ≤ 140737488355328 := by rw [Lib.byteCells_length, List.length_map, List.length_take]; omega
   have hsz := HB.out.size
   have hrd : rdOf false l0 (k : Int) = l0.getD k false := by simp [rdOf]
   rw [hrd] at hcell
   cases hv : l0.getD k false with
   | true =>
    have HT := Lib.hid (impl_told.take l0 k true hlt hv)
    rw [hv] at hcell
    clear hv hrd
    go_wp2_with (go_at_call 80; refine (impl_told.wb w.heap.size w.heap.size _ 49 _ HI.out hlen hsz).mono ?_)
    rintro e W1 ⟨rfl, h1, b1⟩
    have H1 := aM h1; have B1 := aM b1; clear h1 b1
    go_wp2
    go_roundw
    case rel => exact ⟨k + 1, by omega, by go_num, ⟨by rw [HT.out]; exact Or.inr H1.out⟩, ⟨HB.out.trans B1.out⟩⟩
    case measure => simp [intOf]; omega
   | false =>
    have HT := Lib.hid (impl_told.take l0 k false hlt hv)
    rw [hv] at hcell
    clear hv hrd
    go_wp2_with (go_at_call 80; refine (impl_told.wb w.heap.size w.heap.size _ 48 _ HI.out hlen hsz).mono ?_)
    rintro e W1 ⟨rfl, h1, b1⟩
    have H1 := aM h1; have B1 := aM b1; clear h1 b1
    go_wp2
    go_roundw
    case rel => exact ⟨k + 1, by omega, by go_num, ⟨by rw [HT.out]; exact Or.inr H1.out⟩, ⟨HB.out.trans B1.out⟩⟩
    case measure => simp [intOf]; omega
  ·obtain rfl : k = l0.length := by omega
   have HI2 := HI.out
   rw [List.take_of_length_le (cD _)] at HI2
   have hsz := HB.out.size
   go_wp2_with (go_at_call 81; refine (Try.Builder_String_any w.heap.size w.heap.size _ _ HI2 hsz).mono ?_)
   rintro e W1 ⟨rfl, b1⟩
   have B1 := aM b1; clear b1
   go_wp2
   go_ret
   exact ⟨rfl, HB.out.trans B1.out⟩

def impl_set_text.j0 : Nat → Bool → List Bool → List Bool → Option (ByteArray × Bool)
 | 0, _, _, _ => none
 | k + 1, x13, x303000, x303001 => if x13 = true then (some ((⟨#[]⟩ : ByteArray), false)) else ((impl_told.f x303000).bind fun t303 => (if t303.size + 1 ≤ 9223372036854775807 then ((impl_told.f x303001).bind fun t304 => (if t303.size + 1 + t304.size ≤ 9223372036854775807 then (if t303.size + 1 + t304.size + 1 ≤ 9223372036854775807 then (some (((t303 ++ (⟨#[40]⟩ : ByteArray)) ++ t304) ++ (⟨#[41]⟩ : ByteArray), true)) else (none)) else (none))) else (none)))
def impl_set_text.f (k : Nat) (l0_0 : List Bool) (l0_1 : List Bool) : Option (ByteArray × Bool) := if (l0_0.length : Int) > 60 then (impl_set_text.j0 k true l0_0 l0_1) else (impl_set_text.j0 k (decide ((l0_1.length : Int) > 60)) l0_0 l0_1)
theorem impl_set_text.mono_l : ∀ k, (∀ y0 y1 y2, LeO (impl_set_text.j0 k y0 y1 y2) (impl_set_text.j0 (k + 1) y0 y1 y2))
 | 0 => fun _ _ _ r h => by simp [impl_set_text.j0] at h
 | k + 1 => by
  ·intro y0 y1 y2
   unfold impl_set_text.j0
   repeat' (with_reducible exact LeO.refl _)
theorem impl_set_text.mono : ∀ a0 a1 k, LeO (impl_set_text.f k a0 a1) (impl_set_text.f (k + 1) a0 a1) := by
 intro a0 a1 k
 have ih0 := impl_set_text.mono_l k
 unfold impl_set_text.f
 repeat' first | (with_reducible exact ih0 _ _ _) | (with_reducible refine LeO.ite ?_ ?_)
def impl_set_text.T3 : Bool × List (List Nat × List Nat) := (true, [([], []), ([0], [0]), ([1], [1]), ([2], [2]), ([], []), ([4], [4]), ([5, 2], [5]), ([3, 6], [3, 6]), ([7], [7]), ([8, 6, 0, 1, 2, 3, 4, 5, 6, 7, 8], [8]), ([9, 0, 1, 2, 3, 4, 5, 6, 7, 8, 9], [])])
def impl_set_text.B3 : List Nat := [0, 1, 3, 7, 0, 16, 55, 127, 255, 511, 1023]
theorem impl_set_text.tab3 : rtab .any (opsOf Try.f37 3) = impl_set_text.T3 := by kernel_rfl
theorem impl_set_text.bits3 : waitsOk impl_set_text.T3.2 impl_set_text.B3 = true := by kernel_rfl
set_option maxHeartbeats 8000000 in
set_option maxRecDepth 100000 in
theorem impl_set_text.calls (k : Nat) (A0_0 : Option Addr) (c0_0 : Nat) (l0_0 : List Bool) (A0_1 : Option Addr) (c0_1 : Nat) (l0_1 : List Bool) (r1 : ByteArray) (r2 : Bool) (w : World) (hr0_0 : Kd.C Kd.bool w A0_0 l0_0.length l0_0) (hc0_0 : l0_0.length ≤ c0_0) (hr0_1 : Kd.C Kd.bool w A0_1 l0_1.length l0_1) (hc0_1 : l0_1.length ≤ c0_1) (h : impl_set_text.f k l0_0 l0_1 = some (r1, r2)) :
  Calls Try.prog 37 #[.agg #[.slice A0_0 l0_0.length c0_0, .slice A0_1 l0_1.length c0_1]] w fun e w' => e = .returned (.tuple #[.string r1, .bool r2]) ∧ Below w.heap.size w w' := by
 have HR0_0 := aM hr0_0
 have HC0_0 := aM hc0_0
 clear hr0_0 hc0_0
 have HR0_1 := aM hr0_1
 have HC0_1 := aM hc0_1
 clear hr0_1 hc0_1
 have HB := aM (cE w.heap.size w)
 have H : (if (l0_0.length : Int) > 60 then (impl_set_text.j0 k true l0_0 l0_1) else (impl_set_text.j0 k (decide ((l0_1.length : Int) > 60)) l0_0 l0_1)) = some (r1, r2) := h
 clear h
 have HC2 := aM H
 clear H
 go_enter Try.func37, Try.ntmps37
 go_upto_region 1 with (first | ((with_reducible refine aZ (N := 1) rfl ?_); (try (refine gate_guard (by rfl) ?_; dsimp only)); refine bB ?hg (N := 1) ?hd (cs := #[.slice A0_0 l0_0.length c0_0, .slice A0_1 l0_1.length c0_1]) (t := 56) ?hr ?_; (case hd => rfl); (case hg => rfl); (case hr => first | (go_simp; done)); intro gb302 hg w3 hbox hb; have BK302 := aM hbox; replace HB := aM (aE HB.out hb); clear hb hbox hg))
 go_cut [13] (fun v13 wc => ∃ (kq : Nat) (x13_1 : Bool), v13 = .bool x13_1 ∧ Aside0 (impl_set_text.j0 kq x13_1 l0_0 l0_1 = some (r1, r2)) ∧ Aside0 (kq ≤ k) ∧ Aside0 (wc.heap[gb302]? = some (.cells #[(.slice A0_0 l0_0.length c0_0), (.slice A0_1 l0_1.length c0_1)] 56 (0, 0))) ∧ Aside0 (Below w.heap.size w wc))
 case first =>
  have H := HC2.out
  clear HC2
  by_cases c4 : (l0_0.length : Int) > 60
  ·rw [if_pos c4] at H
   have c4b0 : decide (60 < (l0_0.length : Int)) = true := aH c4
   clear c4
   have H' := aM H
   clear H
   have hcz5_0 : w3.cell? ⟨gb302, 0, none⟩ = some (.slice A0_0 l0_0.length c0_0) := (aA BK302.out 0).trans rfl
   go_wp2
   go_meet
   case rel => exact ⟨_, (true), (by rfl), H', ⟨by omega⟩, ⟨by exact BK302.out⟩, ⟨HB.out⟩⟩
  ·rw [if_neg c4] at H
   have c4b0 : decide (60 < (l0_0.length : Int)) = false := aK c4
   clear c4
   have H' := aM H
   clear H
   have hcz6_0 : w3.cell? ⟨gb302, 0, none⟩ = some (.slice A0_0 l0_0.length c0_0) := (aA BK302.out 0).trans rfl
   have hcz6_1 : w3.cell? ⟨gb302, 1, none⟩ = some (.slice A0_1 l0_1.length c0_1) := (aA BK302.out 1).trans rfl
   go_wp2
   go_meet
   case rel => exact ⟨_, (decide ((l0_1.length : Int) > 60)), (by rfl), H', ⟨by omega⟩, ⟨by exact BK302.out⟩, ⟨HB.out⟩⟩
 case rest =>
  clear HC2
  obtain ⟨kq, x13_1, rfl, HA, HJ1, BK302, HB⟩ := hcut
  cases kq with
  | zero => exact absurd HA.out (by simp [impl_set_text.j0])
  | succ kj1 =>
   have H := HA.out
   clear HA
   simp only [impl_set_text.j0] at H
   by_cases c7 : x13_1 = true
   ·subst c7
    replace H : (some ((⟨#[]⟩ : ByteArray), false)) = some (r1, r2) := by rw [if_pos rfl] at H; exact H
    simp only [aV, aW] at H
    obtain ⟨rfl, rfl⟩ := H
    go_wp2
    go_ret2
    exact ⟨by first | rfl | (simp [*, errW_none, errW_some] <;> rfl), HB.out⟩
   ·replace c7 := Bool.eq_false_iff.mpr c7
    subst c7
    replace H : ((impl_told.f l0_0).bind fun t303 => (if t303.size + 1 ≤ 9223372036854775807 then ((impl_told.f l0_1).bind fun t304 => (if t303.size + 1 + t304.size ≤ 9223372036854775807 then (if t303.size + 1 + t304.size + 1 ≤ 9223372036854775807 then (some (((t303 ++ (⟨#[40]⟩ : ByteArray)) ++ t304) ++ (⟨#[41]⟩ : ByteArray), true)) else (none)) else (none))) else (none))) = some (r1, r2) := by rw [if_neg (show ¬ (false = true) by decide)] at H; exact H
    replace H := Option.bind_eq_some_iff.mp H
    obtain ⟨t303, A80, H⟩ := H
    replace H : (if t303.size + 1 ≤ 9223372036854775807 then ((impl_told.f l0_1).bind fun t304 => (if t303.size + 1 + t304.size ≤ 9223372036854775807 then (if t303.size + 1 + t304.size + 1 ≤ 9223372036854775807 then (some (((t303 ++ (⟨#[40]⟩ : ByteArray)) ++ t304) ++ (⟨#[41]⟩ : ByteArray), true)) else (none)) else (none))) else (none)) = some (r1, r2) := H
    have A8 := aM A80
    clear A80
    by_cases c9 : t303.size + 1 ≤ 9223372036854775807
    ·rw [if_pos c9] at H
     try have c9b2 : (9223372036854775807 < t303.size + 1) = False := eq_false (Nat.not_lt.2 c9)
     replace H := Option.bind_eq_some_iff.mp H
     obtain ⟨t304, A100, H⟩ := H
     replace H : (if t303.size + 1 + t304.size ≤ 9223372036854775807 then (if t303.size + 1 + t304.size + 1 ≤ 9223372036854775807 then (some (((t303 ++ (⟨#[40]⟩ : ByteArray)) ++ t304) ++ (⟨#[41]⟩ : ByteArray), true)) else (none)) else (none)) = some (r1, r2) := H
     have A10 := aM A100
     clear A100
     by_cases c11 : t303.size + 1 + t304.size ≤ 9223372036854775807
     ·rw [if_pos c11] at H
      have c11b0 := eq_true c11
      have c11b1 : decide (t303.size + 1 + t304.size ≤ 9223372036854775807) = true := aH c11
      try have c11b2 : (9223372036854775807 < t303.size + 1 + t304.size) = False := eq_false (Nat.not_lt.2 c11)
      by_cases c12 : t303.size + 1 + t304.size + 1 ≤ 9223372036854775807
      ·rw [if_pos c12] at H
       try have c12b2 : (9223372036854775807 < t303.size + 1 + t304.size + 1) = False := eq_false (Nat.not_lt.2 c12)
       simp only [aV, aW] at H
       obtain ⟨rfl, rfl⟩ := H
       try go_wp2
       replace BK302 := aM (kD BK302.out)
       replace HB := aM (b1 HB.out)
       refine start_ (n := 11) (S := fun w' => w'.cell? ⟨gb302, 0, none⟩ = some (.slice A0_0 l0_0.length c0_0) ∧ w'.cell? ⟨gb302, 1, none⟩ = some (.slice A0_1 l0_1.length c0_1)) (ds := []) #[false, false, false, false, false, false, false, false, false, false, false] (by kernel_rfl) rfl rfl ⟨(aA BK302.out 0).trans rfl, (aA BK302.out 1).trans rfl⟩ (fun hHeld => ?_); refine with_tabW impl_set_text.tab3 impl_set_text.bits3 (fun HT_ HW_ => ?_)
       generalize wc.drew = w13 at BK302 HB hHeld ⊢
       refine pQ 0 14 HT_ ?_
       refine pQ 4 18 HT_ ?_
       refine tQ 1 15 HT_ HW_ hHeld ?_
       refine tQ 5 19 HT_ HW_ hHeld ?_
       refine oQ 2 16 HT_ (fun K hK => ?_)
       refine gO Try.func60 #[.slice A0_0 l0_0.length c0_0] ?_
       with_reducible refine (impl_told.calls _ _ l0_0 t303 _ ?side1 ?side2 A8.out).mono ?_
       (case side1 => repeat (exact (bF HR0_0.out HB.out)))
       (case side2 => exact HC0_0.out)
       rintro e w14 ⟨rfl, hb⟩
       refine ⟨_, rfl, ?_⟩
       replace BK302 := aM (aD (g := gb302) (o := .cells #[.slice A0_0 l0_0.length c0_0, .slice A0_1 l0_1.length c0_1] 56 (0, 0)) BK302.out hb)
       replace HB := aM (aE HB.out hb)
       (try clear hb)
       refine hK.out _ _ ⟨(aA BK302.out 0).trans rfl, (aA BK302.out 1).trans rfl⟩ (fun hHeld => ?_)
       clear hK K
       refine nQ ?_
       refine pQ 3 17 HT_ ?_
       refine oQ 6 20 HT_ (fun K hK => ?_)
       refine gO Try.func60 #[.slice A0_1 l0_1.length c0_1] ?_
       with_reducible refine (impl_told.calls _ _ l0_1 t304 _ ?side1 ?side2 A10.out).mono ?_
       (case side1 => repeat (exact (bF HR0_1.out HB.out)))
       (case side2 => exact HC0_1.out)
       rintro e w15 ⟨rfl, hb⟩
       refine ⟨_, rfl, ?_⟩
       replace BK302 := aM (aD (g := gb302) (o := .cells #[.slice A0_0 l0_0.length c0_0, .slice A0_1 l0_1.length c0_1] 56 (0, 0)) BK302.out hb)
       replace HB := aM (aE HB.out hb)
       (try clear hb)
       refine hK.out _ _ ⟨(aA BK302.out 0).trans rfl, (aA BK302.out 1).trans rfl⟩ (fun hHeld => ?_)
       clear hK K
       refine nQ ?_
       refine pQ 7 21 HT_ ?_
       refine pQ 8 22 HT_ ?_
       refine pQ 9 2 HT_ ?_
       refine pQ 10 3 HT_ ?_
       refine done_ (done_of HT_.out (by kernel_rfl)) ?_
       try go_wp2
       go_ret2
       exact ⟨by first | rfl | (simp [*, errW_none, errW_some] <;> rfl), HB.out⟩
      ·rw [if_neg c12] at H
       exact absurd H (by simp)
     ·rw [if_neg c11] at H
      exact absurd H (by simp)
    ·rw [if_neg c9] at H
     exact absurd H (by simp)


theorem impl_made.goesV_ {P : Program} {ops : Array Oper} {Q : Exit → Act → World → Prop} {oi : Oper} {N : Option Tmp} {a : Act} {w : World} {K : Act → World → Prop} {c : Operand} {g : FuncId} {lb : Array Value} (eg : ∀ args w, (callFunc g args).run P w = .ok (.enter g args) w) {ars : Array Operand} {ts : Array TypeId} (args : Array Value)
  (hw : Region.wanted oi (yielded ops a.tmps) = true) (hN : oi.dst = N) (hop : oi.op = .call { callee := .value c, args := ars, argTypes := ts }) (hc : a.eval c = .func (.func g) #[] lb) (hargs : ars.map a.eval = args)
  (h : Calls P g (args ++ lb) w fun e w' => ∃ v, e = .returned v ∧ K (a.put N v) w') : if Region.wanted oi (yielded ops a.tmps) = true then Oper.wp P oi a w K Q else K (a.put N undef) w := by
 refine call_ g (args ++ lb) hw hN ?_ h
 have he := eg (args ++ lb) w
 unfold execOp
 simp [hop, hc, resolve, Deferred.ofValue, invoke, hargs, he]
mutual
def impl_made.l0 (p_ : Int → Option Bool) : Nat → Int → Int → Int → Int → List Bool → Option (ByteArray × Bool)
 | 0, _, _, _, _, _ => none
 | k + 1, x0, x1, x11, x12, x306000 => if x12 < x11 then ((p_ x12).bind fun t306 => (if x306000.length < 140737488355328 then (impl_made.l0 p_ k x0 x1 x11 (wrap64 (x12 + 1)) (x306000 ++ [t306])) else (none))) else (impl_made.l1 p_ k x0 x1 0 x306000 ([] : List Bool))
def impl_made.l1 (p_ : Int → Option Bool) : Nat → Int → Int → Int → List Bool → List Bool → Option (ByteArray × Bool)
 | 0, _, _, _, _, _ => none
 | k + 1, x0, x24, x25, x306000, x306001 => if x25 < x24 then ((p_ (wrap64 (x0 + x25))).bind fun t310 => (if x306001.length < 140737488355328 then (impl_made.l1 p_ k x0 x24 (wrap64 (x25 + 1)) x306000 (x306001 ++ [t310])) else (none))) else ((impl_set_tidy.f k x306000 x306001).bind fun bt314 => ((impl_set_text.f k bt314.1 bt314.2).bind fun bt320 => (some (bt320.1, bt320.2))))
end
def impl_made.f (k : Nat) (a0 : Int) (a1 : Int) (p_ : Int → Option Bool) : Option (ByteArray × Bool) := impl_made.l0 p_ k a0 a1 a0 0 ([] : List Bool)
theorem impl_made.mono_l (p_ q_ : Int → Option Bool) (hp_ : ∀ n, LeO (p_ n) (q_ n)) : ∀ k, (∀ y0 y1 y2 y3 y4, LeO (impl_made.l0 p_ k y0 y1 y2 y3 y4) (impl_made.l0 q_ (k + 1) y0 y1 y2 y3 y4)) ∧ (∀ y0 y1 y2 y3 y4, LeO (impl_made.l1 p_ k y0 y1 y2 y3 y4) (impl_made.l1 q_ (k + 1) y0 y1 y2 y3 y4))
 | 0 => ⟨fun _ _ _ _ _ r h => by simp [impl_made.l0] at h, fun _ _ _ _ _ r h => by simp [impl_made.l1] at h⟩
 | k + 1 => by
  obtain ⟨ih0, ih1⟩ := impl_made.mono_l p_ q_ hp_ k
  refine ⟨?_, ?_⟩
  ·intro y0 y1 y2 y3 y4
   unfold impl_made.l0
   repeat' first
   |(with_reducible exact hp_ _)
   |(with_reducible exact ih0 _ _ _ _ _)
   |(with_reducible exact ih1 _ _ _ _ _)
   |(with_reducible exact impl_set_text.mono _ _ _)
   |(with_reducible exact impl_set_tidy.mono _ _ _)
   |(with_reducible exact LeO.refl _)
   |(with_reducible exact LeO.none _)
   |(with_reducible refine LeO.ite ?_ ?_)
   |(with_reducible refine LeO.bind ?_ (fun _ => ?_))
   |exact ih0 _ _ _ _ _
   |exact ih1 _ _ _ _ _
   |exact impl_set_text.mono _ _ _
   |exact impl_set_tidy.mono _ _ _
   |exact LeO.none _
   |refine LeO.ite ?_ ?_
   |refine LeO.bind ?_ (fun _ => ?_)
  ·intro y0 y1 y2 y3 y4
   unfold impl_made.l1
   repeat' first
   |(with_reducible exact hp_ _)
   |(with_reducible exact ih0 _ _ _ _ _)
   |(with_reducible exact ih1 _ _ _ _ _)
   |(with_reducible exact impl_set_text.mono _ _ _)
   |(with_reducible exact impl_set_tidy.mono _ _ _)
   |(with_reducible exact LeO.refl _)
   |(with_reducible exact LeO.none _)
   |(with_reducible refine LeO.ite ?_ ?_)
   |(with_reducible refine LeO.bind ?_ (fun _ => ?_))
   |exact ih0 _ _ _ _ _
   |exact ih1 _ _ _ _ _
   |exact impl_set_text.mono _ _ _
   |exact impl_set_tidy.mono _ _ _
   |exact LeO.none _
   |refine LeO.ite ?_ ?_
   |refine LeO.bind ?_ (fun _ => ?_)
theorem impl_made.mono (p_ q_ : Int → Option Bool) (hp_ : ∀ n, LeO (p_ n) (q_ n)) : ∀ a0 a1 k, LeO (impl_made.f k a0 a1 p_) (impl_made.f (k + 1) a0 a1 q_) := by
 intro a0 a1 k
 obtain ⟨ih0, ih1⟩ := impl_made.mono_l p_ q_ hp_ k
 unfold impl_made.f
 repeat' first
 |(with_reducible exact hp_ _)
   |(with_reducible exact ih0 _ _ _ _ _)
   |(with_reducible exact ih1 _ _ _ _ _)
   |(with_reducible exact impl_set_text.mono _ _ _)
   |(with_reducible exact impl_set_tidy.mono _ _ _)
   |(with_reducible exact LeO.refl _)
   |(with_reducible exact LeO.none _)
   |(with_reducible refine LeO.ite ?_ ?_)
   |(with_reducible refine LeO.bind ?_ (fun _ => ?_))
   |exact ih0 _ _ _ _ _
   |exact ih1 _ _ _ _ _
   |exact impl_set_text.mono _ _ _
   |exact impl_set_tidy.mono _ _ _
   |exact LeO.none _
   |refine LeO.ite ?_ ?_
   |refine LeO.bind ?_ (fun _ => ?_)
def impl_made.T5 : Bool × List (List Nat × List Nat) := (true, [([], []), ([0], [0]), ([], []), ([], []), ([2, 3], [2, 3]), ([4], [4]), ([1, 5, 4], [1, 5]), ([0, 1, 2, 3, 4, 5, 6], []), ([7, 6, 6, 0, 1, 2, 3, 4, 5, 6], [6, 7])])
def impl_made.B5 : List Nat := [0, 1, 0, 0, 12, 28, 63, 127, 255]
theorem impl_made.tab5 : rtab .any (opsOf Try.f67 5) = impl_made.T5 := by kernel_rfl
theorem impl_made.bits5 : waitsOk impl_made.T5.2 impl_made.B5 = true := by kernel_rfl
def impl_made.T10 : Bool × List (List Nat × List Nat) := (true, [([], []), ([0], [0]), ([], []), ([], []), ([], []), ([3, 4], [3, 4]), ([2, 5], [2, 5]), ([6], [6]), ([1, 7, 6], [1, 7]), ([0, 1, 2, 3, 4, 5, 6, 7, 8], []), ([9, 8, 8, 0, 1, 2, 3, 4, 5, 6, 7, 8], [8, 9])])
def impl_made.B10 : List Nat := [0, 1, 0, 0, 0, 24, 60, 124, 255, 511, 1023]
theorem impl_made.tab10 : rtab .any (opsOf Try.f67 10) = impl_made.T10 := by kernel_rfl
theorem impl_made.bits10 : waitsOk impl_made.T10.2 impl_made.B10 = true := by kernel_rfl
set_option maxHeartbeats 8000000 in
set_option maxRecDepth 100000 in
theorem impl_made.calls (k : Nat) (a0 : Int) (a1 : Int) (p_ : Int → Option Bool) (g_ : Nat) (lb_ : Array Value) (r1 : ByteArray) (r2 : Bool) (w : World) (eg_ : ∀ args w, (callFunc g_ args).run Try.prog w = .ok (.enter g_ args) w) (hp_ : ∀ (n : Int) (b : Bool) (W : World), Below w.heap.size w W → p_ n = some b → Calls Try.prog g_ (#[.int .i64 n] ++ lb_) W fun e W' => e = .returned (.bool b) ∧ Below W.heap.size W W') (h : impl_made.f k a0 a1 p_ = some (r1, r2)) :
  Calls Try.prog 67 #[.int .i64 a0, .int .i64 a1, .func (.func g_) #[] lb_] w fun e w' => e = .returned (.tuple #[.string r1, .bool r2]) ∧ Below w.heap.size w w' := by
 have HB := aM (cE w.heap.size w)
 have H : (impl_made.l0 p_ k a0 a1 a0 0 ([] : List Bool)) = some (r1, r2) := h
 clear h
 have H' := aM H
 clear H
 go_enter Try.func67, Try.ntmps67
 go_wp2_with (first | ((with_reducible refine aZ (N := 8) rfl ?_); refine bB ?hg (N := 8) ?hd (cs := #[.slice none 0 0, .slice none 0 0]) (t := 56) ?hr ?_; (case hd => rfl); (case hg => rfl); (case hr => first | (go_simp; done) | (go_simp; rfl)); intro gb305 hg w4 hbox hb; have BK305 := aM hbox; have GE305 := aM ((by rw [hg]; exact (aG (by repeat (first | (with_reducible first | exact HB.out | apply bA | apply bN | apply b1) | exact HB.out))) : w.heap.size ≤ gb305)); replace HB := aM (aE (by repeat (first | (with_reducible first | exact HB.out | apply bA | apply bN | apply b1) | exact HB.out)) hb); clear hb hbox hg))
 go_loopg [12] k (fun kq v12 w' => ∃ (x12_1 : Int) (x306000_1 : List Bool) (u306000 : Value), v12 = .int .i64 x12_1 ∧ Aside0 (impl_made.l0 p_ kq a0 a1 a0 x12_1 x306000_1 = some (r1, r2)) ∧ Aside0 (kq ≤ k) ∧ Aside0 (Kd.R Kd.bool 4 w' w.heap.size (fun _ => True) u306000 x306000_1) ∧ Aside0 (w'.heap[gb305]? = some (.cells #[u306000, (.slice none 0 0)] 56 (0, 0))) ∧ Aside0 (Below w.heap.size w w'))
 case atStart => exact ⟨(0), (([] : List Bool)), (.slice none 0 0), (by first | rfl | (simp; done) | (simp [*]; done) | (simp [Int.tmod_eq_emod_of_nonneg]; done)), H', ⟨cD _⟩, ⟨by first | exact Kd.R_nil _ _ _ _ _ | exact Kd.N_nil _ _ _ _ _ | exact Kd.V_nil _ _ _ _ _ | exact Kd.Q_nil _ _ _ _ _ | exact Kd.S_nil _ _ _ _ _⟩, ⟨by (with_reducible repeat (first | refine kN ?_ _ | refine kD ?_ | refine kA ?_ _)); exact BK305.out⟩, ⟨by repeat (first | (with_reducible first | exact HB.out | apply bA | apply bN | apply b1 | refine bS ?_ GE305.out) | exact HB.out)⟩⟩
 case round =>
  clear H'
  try clear p2
  obtain ⟨x12_1, x306000_1, u306000, rfl, HA, HK1, HO_306000, BK305, HB⟩ := hrel
  cases gk with
  | zero => exact absurd HA.out (by simp [impl_made.l0])
  | succ k1 =>
   have H := HA.out
   clear HA
   simp only [impl_made.l0] at H
   by_cases c5 : x12_1 < a0
   ·rw [if_pos c5] at H
    have c5b0 : decide (x12_1 < a0) = true := aH c5
    clear c5
    replace H := Option.bind_eq_some_iff.mp H
    obtain ⟨t306, A60, H⟩ := H
    replace H : (if x306000_1.length < 140737488355328 then (impl_made.l0 p_ k1 a0 a1 a0 (wrap64 (x12_1 + 1)) (x306000_1 ++ [t306])) else (none)) = some (r1, r2) := H
    have A6 := aM A60
    clear A60
    by_cases c7 : x306000_1.length < 140737488355328
    ·rw [if_pos c7] at H
     have LMc7 := aM c7
     clear c7
     obtain ⟨y307, hy307⟩ : ∃ y_ : List Bool, y_ = (x306000_1 ++ [t306]) := ⟨_, rfl⟩
     replace H : (impl_made.l0 p_ k1 a0 a1 a0 (wrap64 (x12_1 + 1)) y307) = some (r1, r2) := by first | (rw [hy307]; with_reducible exact H) | (have H2_ := (bR _ _).symm.trans H; rw [hy307]; with_reducible exact H2_) | (have H2_ := (bR _ _).symm.trans H; with_reducible exact H2_) | with_reducible exact H | (rw [hy307]; exact H) | exact H
     have Ny307 := aM hy307
     clear hy307
     have H' := aM H
     clear H
     try go_wp2
     replace HO_306000 := aM (rD HO_306000.out)
     replace BK305 := aM (kD BK305.out)
     replace HB := aM (b1 HB.out)
     refine start_ (n := 9) (S := fun w' => w'.cell? ⟨gb305, 0, none⟩ = some (u306000) ∧ w'.cell? ⟨gb305, 1, none⟩ = some (.slice none 0 0)) (ds := [8]) #[false, false, false, false, false, false, false, false, false] (by kernel_rfl) rfl rfl ⟨(aA BK305.out 0).trans rfl, (aA BK305.out 1).trans rfl⟩ (fun hHeld => ?_); refine with_tabW impl_made.tab5 impl_made.bits5 (fun HT_ HW_ => ?_)
     generalize wr.drew = w8 at HO_306000 BK305 HB hHeld ⊢
     refine pQ 0 15 HT_ ?_
     refine pQ 2 17 HT_ ?_
     refine pQ 3 18 HT_ ?_
     refine tQ 1 16 HT_ HW_ hHeld ?_
     refine oQ 4 19 HT_ (fun K hK => ?_)
     refine impl_made.goesV_ eg_ #[.int .i64 x12_1] (by rfl) rfl rfl (by rfl) (by (try simp only [aN, aQ, aT]); first | done | rfl | (simp only [List.length_drop, List.length_take]; rfl)) ?_
     refine (hp_ x12_1 t306 _ (by repeat (first | (with_reducible first | exact HB.out | apply bA | apply bN | apply b1) | exact HB.out)) A6.out).mono ?_
     rintro e w9 ⟨rfl, hb⟩
     refine ⟨_, rfl, ?_⟩
     replace HO_306000 := aM (bG (by (with_reducible repeat (first | apply rA | apply rN | apply rD)); exact HO_306000.out) hb)
     replace BK305 := aM (aD (g := gb305) (o := .cells #[u306000, .slice none 0 0] 56 (0, 0)) (by (with_reducible repeat (first | refine kN ?_ _ | refine kD ?_ | refine kA ?_ _)); exact BK305.out) hb)
     replace HB := aM (aE (by repeat (first | (with_reducible first | exact HB.out | apply bA | apply bN | apply b1 | refine bS ?_ GE305.out) | exact HB.out)) hb)
     (try clear hb)
     (try clear hb2)
     (try clear hk)
     (try clear hi)
     refine hK.out _ _ ⟨(aA BK305.out 0).trans rfl, (aA BK305.out 1).trans rfl⟩ (fun hHeld => ?_)
     clear hK K
     refine nQ ?_
     refine oQ 5 20 HT_ (fun K hK => ?_)
     refine value_ (w1 := ?_) (v := ?_) (by rfl) rfl ?_ ?_
     rotate_left 2
     ·go_simp
      constructor
      ·rfl
      ·rfl
     refine hK.out _ _ ⟨(aA (kA BK305.out _) 0).trans rfl, (aA (kA BK305.out _) 1).trans rfl⟩ (fun hHeld => ?_)
     clear hK K
     refine nQ ?_
     refine oQ 6 21 HT_ (fun K hK => ?_)
     refine Kd.R_append_step Kd.bool (w0 := w) w.heap.size (by rfl) (.tmp 16) (.tmp 20) 52 4 (.bool false) 1 rfl Try.underlying52 info4 rfl (by decide) (by omega) u306000 x306000_1 t306 [.bool t306] (fun _ => True) (fun _ => False) rfl rfl ?aP (fun _ hk => hk.elim) ?aF ?aO ?aB ?aS ?aL ?_
     (case aP => exact rfl)
     (case aB => exact (by repeat (first | (with_reducible first | exact HB.out | apply bA | apply bN | apply b1 | refine bS ?_ GE305.out) | exact HB.out)))
     (case aF => exact (fun _ _ => trivial))
     (case aO => exact (by (with_reducible repeat (first | apply rA | apply rN | apply rD)); exact HO_306000.out))
     (case aS => exact (aG (by repeat (first | (with_reducible first | exact HB.out | apply bA | apply bN | apply b1 | refine bS ?_ GE305.out) | exact HB.out))))
     (case aL => have := LMc7.out; omega)
     intro v308 w10 ho hb hg hat
     rw [← Ny307.out] at ho
     replace BK305 := aM (blk_grown (g := gb305) (o := .cells #[u306000, .slice none 0 0] 56 (0, 0)) (by (with_reducible repeat (first | refine kN ?_ _ | refine kD ?_ | refine kA ?_ _)); exact BK305.out) hg (Kd.R_ne HO_306000.out BK305.out (by decide)))
     replace HB := aM hb
     have HO309 := aM ho
     clear HO_306000
     clear ho hb hg hat
     obtain ⟨Ao11, co11, eo11⟩ := bL HO309.out
     (first | subst eo11 | (injection eo11 with f1_ f2_ f3_; have f4_ := f1_.symm; have f5_ := f3_.symm; clear f1_ f2_ f3_; subst f4_; subst f5_))
     refine hK.out _ _ ⟨(aA BK305.out 0).trans rfl, (aA BK305.out 1).trans rfl⟩ (fun hHeld => ?_)
     clear hK K
     refine nQ ?_
     refine pQ 7 22 HT_ ?_
     refine last_ (i := 8) (N := none) #[true, true, true, true, true, true, true, true, true] rfl rfl (one_of HT_.out (by kernel_rfl)) (by decide) (fun K hK => ?_)
     have hfs12 := aC BK305.out 0
     refine skip_ (w1 := ?_) (by rfl) rfl ?_ ?_
     rotate_left
     ·go_simp
      rfl
     refine hK.out _ _ ?_
     clear hK K
     refine done_ (done_of HT_.out (by kernel_rfl)) ?_
     try go_wp2
     go_roundg k1
     case measure => have := HK1.out; omega
     case rel => exact ⟨(wrap64 (x12_1 + 1)), (y307), (.slice Ao11 y307.length co11), (by first | rfl | (simp; done) | (simp [*]; done) | (simp [Int.tmod_eq_emod_of_nonneg]; done)), H', ⟨by have := HK1.out; omega⟩, ⟨by (with_reducible repeat (first | apply rA | apply rN | apply rD)); exact bJ (bC (p := ⟨gb305, 0, none⟩) (bE HO309.out BK305.out (by decide)) (fun _ hk => hk.2) (.slice Ao11 y307.length co11)) (fun _ hk => trivial)⟩, ⟨by (with_reducible repeat (first | refine kN ?_ _ | refine kD ?_ | refine kA ?_ _)); refine bV (cs := #[u306000, .slice none 0 0]) ?_ 0 _ rfl; (with_reducible repeat (first | refine kN ?_ _ | refine kD ?_ | refine kA ?_ _)); exact BK305.out⟩, ⟨by repeat (first | (with_reducible first | exact HB.out | apply bA | apply bN | apply b1 | refine bS ?_ GE305.out) | exact HB.out)⟩⟩
    ·rw [if_neg c7] at H
     exact absurd H (by simp)
   ·rw [if_neg c5] at H
    have c5b0 : decide (x12_1 < a0) = false := aK c5
    clear c5
    have H' := aM H
    clear H
    go_wp2
    go_loopg [25] k1 (fun kq v25 w' => ∃ (x25_2 : Int) (x306001_2 : List Bool) (u306001 : Value), v25 = .int .i64 x25_2 ∧ Aside0 (impl_made.l1 p_ kq a0 a1 x25_2 x306000_1 x306001_2 = some (r1, r2)) ∧ Aside0 (kq ≤ k1) ∧ Aside0 (Kd.R Kd.bool 4 w' w.heap.size (fun k_ => some k_ ≠ (u306001 : Value).ownBlock) u306000 x306000_1) ∧ Aside0 (Kd.R Kd.bool 4 w' w.heap.size (fun k_ => some k_ ≠ (u306000 : Value).ownBlock) u306001 x306001_2) ∧ Aside0 (w'.heap[gb305]? = some (.cells #[u306000, u306001] 56 (0, 0))) ∧ Aside0 (Below w.heap.size w w'))
    case atStart => exact ⟨(0), (([] : List Bool)), (.slice none 0 0), (by first | rfl | (simp; done) | (simp [*]; done) | (simp [Int.tmod_eq_emod_of_nonneg]; done)), H', ⟨cD _⟩, ⟨by (with_reducible repeat (first | apply rA | apply rN | apply rD)); exact bJ HO_306000.out (fun _ hk => (by simp [Value.ownBlock]))⟩, ⟨by first | exact Kd.R_nil _ _ _ _ _ | exact Kd.N_nil _ _ _ _ _ | exact Kd.V_nil _ _ _ _ _ | exact Kd.Q_nil _ _ _ _ _ | exact Kd.S_nil _ _ _ _ _⟩, ⟨by (with_reducible repeat (first | refine kN ?_ _ | refine kD ?_ | refine kA ?_ _)); exact BK305.out⟩, ⟨by repeat (first | (with_reducible first | exact HB.out | apply bA | apply bN | apply b1 | refine bS ?_ GE305.out) | exact HB.out)⟩⟩
    case round =>
     clear H'
     try clear p2
     try clear c5
     try clear c5b0
     try clear c6
     try clear p6
     try clear c7
     try clear c9
     try clear p2
     obtain ⟨x25_2, x306001_2, u306001, rfl, HA, HK2, HO_306000, HO_306001, BK305, HB⟩ := hrel
     cases gk with
     | zero => exact absurd HA.out (by simp [impl_made.l1])
     | succ k2 =>
      have H := HA.out
      clear HA
      simp only [impl_made.l1] at H
      by_cases c13 : x25_2 < a1
      ·rw [if_pos c13] at H
       have c13b0 : decide (x25_2 < a1) = true := aH c13
       clear c13
       replace H := Option.bind_eq_some_iff.mp H
       obtain ⟨t310, A140, H⟩ := H
       replace H : (if x306001_2.length < 140737488355328 then (impl_made.l1 p_ k2 a0 a1 (wrap64 (x25_2 + 1)) x306000_1 (x306001_2 ++ [t310])) else (none)) = some (r1, r2) := H
       have A14 := aM A140
       clear A140
       by_cases c15 : x306001_2.length < 140737488355328
       ·rw [if_pos c15] at H
        have LMc15 := aM c15
        clear c15
        obtain ⟨y311, hy311⟩ : ∃ y_ : List Bool, y_ = (x306001_2 ++ [t310]) := ⟨_, rfl⟩
        replace H : (impl_made.l1 p_ k2 a0 a1 (wrap64 (x25_2 + 1)) x306000_1 y311) = some (r1, r2) := by first | (rw [hy311]; with_reducible exact H) | (have H2_ := (bR _ _).symm.trans H; rw [hy311]; with_reducible exact H2_) | (have H2_ := (bR _ _).symm.trans H; with_reducible exact H2_) | with_reducible exact H | (rw [hy311]; exact H) | exact H
        have Ny311 := aM hy311
        clear hy311
        have H' := aM H
        clear H
        try go_wp2
        replace HO_306000 := aM (rD HO_306000.out)
        replace HO_306001 := aM (rD HO_306001.out)
        replace BK305 := aM (kD BK305.out)
        replace HB := aM (b1 HB.out)
        refine start_ (n := 11) (S := fun w' => w'.cell? ⟨gb305, 0, none⟩ = some (u306000) ∧ w'.cell? ⟨gb305, 1, none⟩ = some (u306001)) (ds := [10]) #[false, false, false, false, false, false, false, false, false, false, false] (by kernel_rfl) rfl rfl ⟨(aA BK305.out 0).trans rfl, (aA BK305.out 1).trans rfl⟩ (fun hHeld => ?_); refine with_tabW impl_made.tab10 impl_made.bits10 (fun HT_ HW_ => ?_)
        generalize wr.drew = w16 at HO_306000 HO_306001 BK305 HB hHeld ⊢
        refine pQ 0 28 HT_ ?_
        refine pQ 2 30 HT_ ?_
        refine pQ 3 31 HT_ ?_
        refine pQ 4 32 HT_ ?_
        refine pQ 5 33 HT_ ?_
        refine tQ 1 29 HT_ HW_ hHeld ?_
        refine oQ 6 34 HT_ (fun K hK => ?_)
        refine impl_made.goesV_ eg_ #[.int .i64 (wrap64 (a0 + x25_2))] (by rfl) rfl rfl (by rfl) (by (try simp only [aN, aQ, aT]); first | done | rfl | (simp only [List.length_drop, List.length_take]; rfl)) ?_
        refine (hp_ (wrap64 (a0 + x25_2)) t310 _ (by repeat (first | (with_reducible first | exact HB.out | apply bA | apply bN | apply b1) | exact HB.out)) A14.out).mono ?_
        rintro e w17 ⟨rfl, hb⟩
        refine ⟨_, rfl, ?_⟩
        replace HO_306000 := aM (bG (by (with_reducible repeat (first | apply rA | apply rN | apply rD)); exact HO_306000.out) hb)
        replace HO_306001 := aM (bG (by (with_reducible repeat (first | apply rA | apply rN | apply rD)); exact HO_306001.out) hb)
        replace BK305 := aM (aD (g := gb305) (o := .cells #[u306000, u306001] 56 (0, 0)) (by (with_reducible repeat (first | refine kN ?_ _ | refine kD ?_ | refine kA ?_ _)); exact BK305.out) hb)
        replace HB := aM (aE (by repeat (first | (with_reducible first | exact HB.out | apply bA | apply bN | apply b1 | refine bS ?_ GE305.out) | exact HB.out)) hb)
        (try clear hb)
        (try clear hb2)
        (try clear hk)
        (try clear hi)
        refine hK.out _ _ ⟨(aA BK305.out 0).trans rfl, (aA BK305.out 1).trans rfl⟩ (fun hHeld => ?_)
        clear hK K
        refine nQ ?_
        refine oQ 7 35 HT_ (fun K hK => ?_)
        refine value_ (w1 := ?_) (v := ?_) (by rfl) rfl ?_ ?_
        rotate_left 2
        ·go_simp
         constructor
         ·rfl
         ·rfl
        refine hK.out _ _ ⟨(aA (kA BK305.out _) 0).trans rfl, (aA (kA BK305.out _) 1).trans rfl⟩ (fun hHeld => ?_)
        clear hK K
        refine nQ ?_
        refine oQ 8 36 HT_ (fun K hK => ?_)
        refine Kd.R_append_step Kd.bool (w0 := w) w.heap.size (by rfl) (.tmp 29) (.tmp 35) 52 4 (.bool false) 1 rfl Try.underlying52 info4 rfl (by decide) (by omega) u306001 x306001_2 t310 [.bool t310] (fun k_ => some k_ ≠ (u306000 : Value).ownBlock) (fun _ => False) rfl rfl ?aP (fun _ hk => hk.elim) ?aF ?aO ?aB ?aS ?aL ?_
        (case aP => exact rfl)
        (case aB => exact (by repeat (first | (with_reducible first | exact HB.out | apply bA | apply bN | apply b1 | refine bS ?_ GE305.out) | exact HB.out)))
        (case aF => exact (fun k_ hk => Kd.fresh' (Kd.R_lt (by (with_reducible repeat (first | apply rA | apply rN | apply rD)); exact HO_306000.out)) k_ hk))
        (case aO => exact (by (with_reducible repeat (first | apply rA | apply rN | apply rD)); exact HO_306001.out))
        (case aS => exact (aG (by repeat (first | (with_reducible first | exact HB.out | apply bA | apply bN | apply b1 | refine bS ?_ GE305.out) | exact HB.out))))
        (case aL => have := LMc15.out; omega)
        intro v312 w18 ho hb hg hat
        rw [← Ny311.out] at ho
        replace HO_306000 := aM (cJ (ok := (fun _ => True)) (by (with_reducible repeat (first | apply rA | apply rN | apply rD)); exact bJ HO_306000.out (fun _ hk => ⟨trivial, hk⟩)) hg hat)
        replace BK305 := aM (blk_grown (g := gb305) (o := .cells #[u306000, u306001] 56 (0, 0)) (by (with_reducible repeat (first | refine kN ?_ _ | refine kD ?_ | refine kA ?_ _)); exact BK305.out) hg (Kd.R_ne HO_306001.out BK305.out (by decide)))
        replace HB := aM hb
        have HO313 := aM ho
        clear HO_306001
        clear ho hb hg hat
        obtain ⟨Ao19, co19, eo19⟩ := bL HO313.out
        (first | subst eo19 | (injection eo19 with f1_ f2_ f3_; have f4_ := f1_.symm; have f5_ := f3_.symm; clear f1_ f2_ f3_; subst f4_; subst f5_))
        refine hK.out _ _ ⟨(aA BK305.out 0).trans rfl, (aA BK305.out 1).trans rfl⟩ (fun hHeld => ?_)
        clear hK K
        refine nQ ?_
        refine pQ 9 37 HT_ ?_
        refine last_ (i := 10) (N := none) #[true, true, true, true, true, true, true, true, true, true, true] rfl rfl (one_of HT_.out (by kernel_rfl)) (by decide) (fun K hK => ?_)
        have hfs20 := aC BK305.out 1
        refine skip_ (w1 := ?_) (by rfl) rfl ?_ ?_
        rotate_left
        ·go_simp
         rfl
        refine hK.out _ _ ?_
        clear hK K
        refine done_ (done_of HT_.out (by kernel_rfl)) ?_
        try go_wp2
        go_roundg k2
        case measure => have := HK1.out; have := HK2.out; omega
        case rel => exact ⟨(wrap64 (x25_2 + 1)), (y311), (.slice Ao19 y311.length co19), (by first | rfl | (simp; done) | (simp [*]; done) | (simp [Int.tmod_eq_emod_of_nonneg]; done)), H', ⟨by have := HK1.out; have := HK2.out; omega⟩, ⟨by (with_reducible repeat (first | apply rA | apply rN | apply rD)); exact bJ (bC (p := ⟨gb305, 1, none⟩) (bE HO_306000.out BK305.out (by decide)) (fun _ hk => hk.2) (.slice Ao19 y311.length co19)) (fun _ hk => hk.1.2)⟩, ⟨by (with_reducible repeat (first | apply rA | apply rN | apply rD)); exact bJ (bC (p := ⟨gb305, 1, none⟩) (bE HO313.out BK305.out (by decide)) (fun _ hk => hk.2) (.slice Ao19 y311.length co19)) (fun _ hk => hk.1)⟩, ⟨by (with_reducible repeat (first | refine kN ?_ _ | refine kD ?_ | refine kA ?_ _)); refine bV (cs := #[u306000, u306001]) ?_ 1 _ rfl; (with_reducible repeat (first | refine kN ?_ _ | refine kD ?_ | refine kA ?_ _)); exact BK305.out⟩, ⟨by repeat (first | (with_reducible first | exact HB.out | apply bA | apply bN | apply b1 | refine bS ?_ GE305.out) | exact HB.out)⟩⟩
       ·rw [if_neg c15] at H
        exact absurd H (by simp)
      ·rw [if_neg c13] at H
       have c13b0 : decide (x25_2 < a1) = false := aK c13
       clear c13
       replace H := Option.bind_eq_some_iff.mp H
       obtain ⟨⟨t314, t317⟩, A210, H⟩ := H
       replace H : ((impl_set_text.f k2 t314 t317).bind fun bt320 => (some (bt320.1, bt320.2))) = some (r1, r2) := H
       have A21 := aM A210
       clear A210
       replace H := Option.bind_eq_some_iff.mp H
       obtain ⟨⟨t320, t321⟩, A220, H⟩ := H
       replace H : (some (t320, t321)) = some (r1, r2) := H
       have A22 := aM A220
       clear A220
       simp only [aV, aW] at H
       obtain ⟨rfl, rfl⟩ := H
       have hcz23_0 : wr.cell? ⟨gb305, 0, none⟩ = some (u306000) := (aA BK305.out 0).trans rfl
       have hcz23_1 : wr.cell? ⟨gb305, 1, none⟩ = some (u306001) := (aA BK305.out 1).trans rfl
       obtain ⟨Ao24, co24, eo24⟩ := bL HO_306000.out
       subst eo24
       obtain ⟨Ao25, co25, eo25⟩ := bL HO_306001.out
       subst eo25
       go_wp2_with (first | ((with_reducible refine aY (f := 59) rfl ?_); refine gL 40 Try.func59 #[.agg #[.slice Ao24 x306000_1.length co24, .slice Ao25 x306001_2.length co25]] (hargs := (by (try simp only [aN, aQ, aT]); first | done | rfl | (simp only [List.length_drop, List.length_take]; rfl))) ?_; (with_reducible refine (impl_set_tidy.calls k2 _ _ x306000_1 _ _ x306001_2 t314 t317 _ ?side1 ?side2 ?side3 ?side4 A21.out).mono ?_); (case side1 => repeat (first | exact (bM HO_306000.out).2.2 | (with_reducible refine Kd.C_alloc ?_ _) | (with_reducible refine Kd.C_drewN ?_ _) | (with_reducible refine Kd.C_drew ?_))); (case side2 => exact (bM HO_306000.out).2.1); (case side3 => repeat (first | exact (bM HO_306001.out).2.2 | (with_reducible refine Kd.C_alloc ?_ _) | (with_reducible refine Kd.C_drewN ?_ _) | (with_reducible refine Kd.C_drew ?_))); (case side4 => exact (bM HO_306001.out).2.1); rintro e w26 ⟨v315, v318, rfl, ho0, ho1, hb⟩; refine ⟨_, rfl, ?_⟩; have HO316 := aM (bP (Kd.R_new' (Kd.R_new' ho0 (Kd.R_lt (by (with_reducible repeat (first | apply rA | apply rN | apply rD)); exact HO_306000.out))) (Kd.R_lt (by (with_reducible repeat (first | apply rA | apply rN | apply rD)); exact HO_306001.out))) (aG (by repeat (first | (with_reducible first | exact HB.out | apply bA | apply bN | apply b1 | refine bS ?_ GE305.out) | exact HB.out)))); have HO319 := aM (bP (Kd.R_new' (Kd.R_new' ho1 (Kd.R_lt (by (with_reducible repeat (first | apply rA | apply rN | apply rD)); exact HO_306000.out))) (Kd.R_lt (by (with_reducible repeat (first | apply rA | apply rN | apply rD)); exact HO_306001.out))) (aG (by repeat (first | (with_reducible first | exact HB.out | apply bA | apply bN | apply b1 | refine bS ?_ GE305.out) | exact HB.out)))); replace HO_306000 := aM (bJ (Kd.R_told (Kd.R_told (Kd.R_old (by (with_reducible repeat (first | apply rA | apply rN | apply rD)); exact HO_306000.out) hb) (Kd.R_base ho0)) (Kd.R_base ho1)) (fun _ h_ => h_.1)); replace HO_306001 := aM (bJ (Kd.R_told (Kd.R_told (Kd.R_old (by (with_reducible repeat (first | apply rA | apply rN | apply rD)); exact HO_306001.out) hb) (Kd.R_base ho0)) (Kd.R_base ho1)) (fun _ h_ => h_.1)); replace HB := aM (aE (by repeat (first | (with_reducible first | exact HB.out | apply bA | apply bN | apply b1 | refine bS ?_ GE305.out) | exact HB.out)) hb); (try clear hb); (try clear hb2); (try clear hk); (try clear hi); (try clear ho0); (try clear ho1); obtain ⟨Ao27, co27, eo27⟩ := bL HO316.out; subst eo27; obtain ⟨Ao28, co28, eo28⟩ := bL HO319.out; subst eo28) | ((with_reducible refine aY (f := 37) rfl ?_); refine gL 41 Try.func37 #[.agg #[.slice Ao27 t314.length co27, .slice Ao28 t317.length co28]] (hargs := (by (try simp only [aN, aQ, aT]); first | done | rfl | (simp only [List.length_drop, List.length_take]; rfl))) ?_; (with_reducible refine (impl_set_text.calls k2 _ _ t314 _ _ t317 t320 t321 _ ?side1 ?side2 ?side3 ?side4 A22.out).mono ?_); (case side1 => repeat (first | exact (bM HO316.out).2.2 | (with_reducible refine Kd.C_alloc ?_ _) | (with_reducible refine Kd.C_drewN ?_ _) | (with_reducible refine Kd.C_drew ?_))); (case side2 => exact (bM HO316.out).2.1); (case side3 => repeat (first | exact (bM HO319.out).2.2 | (with_reducible refine Kd.C_alloc ?_ _) | (with_reducible refine Kd.C_drewN ?_ _) | (with_reducible refine Kd.C_drew ?_))); (case side4 => exact (bM HO319.out).2.1); rintro e w29 ⟨rfl, hb⟩; refine ⟨_, rfl, ?_⟩; replace HB := aM (aE (by repeat (first | (with_reducible first | exact HB.out | apply bA | apply bN | apply b1 | refine bS ?_ GE305.out) | exact HB.out)) hb); (try clear hb); (try clear hb2); (try clear hk); (try clear hi)))
       go_ret2
       exact ⟨by first | rfl | (simp [errW_none, errW_some] <;> rfl) | (simp [errW_none, errW_some]; exact ⟨rfl, rfl⟩) | (simp [errW_none, errW_some]; exact ⟨rfl, rfl, rfl⟩) | (simp [*, errW_none, errW_some] <;> rfl), by repeat (first | (with_reducible first | exact HB.out | apply bA | apply bN | apply b1 | refine bS ?_ GE305.out) | exact HB.out)⟩


def impl_set_has.f (l0_0 : List Bool) (l0_1 : List Bool) (a1 : Int) : Option (Bool) := if a1 < 0 then (some false) else (if a1 < (l0_0.length : Int) then (if 0 ≤ a1 then (some (rdOf false l0_0 a1)) else (none)) else (if (l0_1.length : Int) = 0 then (none) else (if 0 ≤ (Int.tmod (wrap64 (a1 - (l0_0.length : Int))) (l0_1.length : Int)) then (if (Int.tmod (wrap64 (a1 - (l0_0.length : Int))) (l0_1.length : Int)) < (l0_1.length : Int) then (some (rdOf false l0_1 (Int.tmod (wrap64 (a1 - (l0_0.length : Int))) (l0_1.length : Int)))) else (none)) else (none))))
set_option maxHeartbeats 8000000 in
set_option maxRecDepth 100000 in
theorem impl_set_has.calls (A0_0 : Option Addr) (c0_0 : Nat) (l0_0 : List Bool) (A0_1 : Option Addr) (c0_1 : Nat) (l0_1 : List Bool) (a1 : Int) (r : Bool) (w : World) (hr0_0 : Kd.C Kd.bool w A0_0 l0_0.length l0_0) (hc0_0 : l0_0.length ≤ c0_0) (hr0_1 : Kd.C Kd.bool w A0_1 l0_1.length l0_1) (hc0_1 : l0_1.length ≤ c0_1) (h : impl_set_has.f l0_0 l0_1 a1 = some r) :
  Calls Try.prog 33 #[.agg #[.slice A0_0 l0_0.length c0_0, .slice A0_1 l0_1.length c0_1], .int .i64 a1] w fun e w' => e = .returned (.bool r) ∧ Below w.heap.size w w' := by
 have HR0_0 := aM hr0_0
 clear hr0_0 hc0_0
 have HR0_1 := aM hr0_1
 clear hr0_1 hc0_1
 have HB := aM (cE w.heap.size w)
 have H : (if a1 < 0 then (some false) else (if a1 < (l0_0.length : Int) then (if 0 ≤ a1 then (some (rdOf false l0_0 a1)) else (none)) else (if (l0_1.length : Int) = 0 then (none) else (if 0 ≤ (Int.tmod (wrap64 (a1 - (l0_0.length : Int))) (l0_1.length : Int)) then (if (Int.tmod (wrap64 (a1 - (l0_0.length : Int))) (l0_1.length : Int)) < (l0_1.length : Int) then (some (rdOf false l0_1 (Int.tmod (wrap64 (a1 - (l0_0.length : Int))) (l0_1.length : Int)))) else (none)) else (none))))) = some r := h
 clear h
 by_cases c3 : a1 < 0
 ·rw [if_pos c3] at H
  have c3b0 : decide (a1 < 0) = true := aH c3
  clear c3
  obtain rfl := bU H
  go_enter Try.func33, Try.ntmps33
  go_wp2_with (first | ((with_reducible refine aZ (N := 2) rfl ?_); refine bB ?hg (N := 2) ?hd (cs := #[.slice A0_0 l0_0.length c0_0, .slice A0_1 l0_1.length c0_1]) (t := 56) ?hr ?_; (case hd => rfl); (case hg => rfl); (case hr => first | (go_simp; done)); intro gb101 hg w4 hbox hb; replace HB := aM (aE HB.out hb); clear hb hbox hg))
  repeat (go_quiet (fail); try go_wp2_with (fail))
  go_ret
  exact ⟨by first | rfl | (simp [*, errW_none, errW_some] <;> rfl), HB.out⟩
 ·rw [if_neg c3] at H
  have c3b0 : decide (a1 < 0) = false := aK c3
  clear c3
  by_cases c5 : a1 < (l0_0.length : Int)
  ·rw [if_pos c5] at H
   have c5b0 : decide (a1 < (l0_0.length : Int)) = true := aH c5
   clear c5
   by_cases c6 : 0 ≤ a1
   ·rw [if_pos c6] at H
    have c6b0 : decide (0 ≤ a1) = true := aH c6
    clear c6
    obtain rfl := bU H
    go_enter Try.func33, Try.ntmps33
    go_wp2_with (first | ((with_reducible refine aZ (N := 2) rfl ?_); refine bB ?hg (N := 2) ?hd (cs := #[.slice A0_0 l0_0.length c0_0, .slice A0_1 l0_1.length c0_1]) (t := 56) ?hr ?_; (case hd => rfl); (case hg => rfl); (case hr => first | (go_simp; done)); intro gb101 hg w7 hbox hb; have BK101 := aM hbox; replace HB := aM (aE HB.out hb); clear hb hbox hg; have hcz8_0 : w7.cell? ⟨gb101, 0, none⟩ = some (.slice A0_0 l0_0.length c0_0) := (aA BK101.out 0).trans rfl; have p102 : 0 ≤ (a1 : Int) := aJ (by (with_reducible assumption)); have q102 : a1 < (l0_0.length : Int) := aJ (by (with_reducible assumption)); obtain ⟨ad102, e102, hx102_0⟩ := Kd.at_bool HR0_0.out a1 p102 q102; cases e102; replace hx102_0 := (HB.out.cell (World.block_lt_of_cell? w _ hx102_0)).trans hx102_0; replace p102 := eq_true p102; replace q102 := eq_true q102))
    repeat (go_quiet (fail); try go_wp2_with (fail))
    go_ret
    exact ⟨by first | rfl | (simp [*, errW_none, errW_some] <;> rfl), HB.out⟩
   ·rw [if_neg c6] at H
    exact absurd H (by simp)
  ·rw [if_neg c5] at H
   have c5b0 : decide (a1 < (l0_0.length : Int)) = false := aK c5
   clear c5
   by_cases c9 : (l0_1.length : Int) = 0
   ·rw [if_pos c9] at H
    exact absurd H (by simp)
   ·rw [if_neg c9] at H
    have c9b2 : ¬ (l0_1 = []) := fun h_ => c9 (by rw [h_]; rfl)
    obtain ⟨ji10, hji10⟩ : ∃ j_ : Int, (Int.tmod (wrap64 (a1 - (l0_0.length : Int))) (l0_1.length : Int)) = j_ := ⟨_, rfl⟩
    replace H : (if 0 ≤ (ji10) then (if (ji10) < (l0_1.length : Int) then (some (rdOf false l0_1 (ji10))) else (none)) else (none)) = some r := by first | (rw [hji10] at H; exact H)
    by_cases c11 : 0 ≤ (ji10)
    ·rw [if_pos c11] at H
     have c11b0 : decide (0 ≤ (ji10)) = true := aH c11
     clear c11
     by_cases c12 : (ji10) < (l0_1.length : Int)
     ·rw [if_pos c12] at H
      have c12b0 : decide ((ji10) < (l0_1.length : Int)) = true := aH c12
      clear c12
      obtain rfl := bU H
      go_enter Try.func33, Try.ntmps33
      go_wp2_with (first | ((with_reducible refine aZ (N := 2) rfl ?_); refine bB ?hg (N := 2) ?hd (cs := #[.slice A0_0 l0_0.length c0_0, .slice A0_1 l0_1.length c0_1]) (t := 56) ?hr ?_; (case hd => rfl); (case hg => rfl); (case hr => first | (go_simp; done)); intro gb101 hg w13 hbox hb; have BK101 := aM hbox; replace HB := aM (aE HB.out hb); clear hb hbox hg; have hcz14_0 : w13.cell? ⟨gb101, 0, none⟩ = some (.slice A0_0 l0_0.length c0_0) := (aA BK101.out 0).trans rfl; have hcz14_1 : w13.cell? ⟨gb101, 1, none⟩ = some (.slice A0_1 l0_1.length c0_1) := (aA BK101.out 1).trans rfl; have p103 : 0 ≤ ((ji10) : Int) := aJ (by (with_reducible assumption)); have q103 : (ji10) < (l0_1.length : Int) := aJ (by (with_reducible assumption)); obtain ⟨ad103, e103, hx103_0⟩ := Kd.at_bool HR0_1.out (ji10) p103 q103; cases e103; replace hx103_0 := (HB.out.cell (World.block_lt_of_cell? w _ hx103_0)).trans hx103_0; replace p103 := eq_true p103; replace q103 := eq_true q103))
      repeat (go_quiet (fail); try go_wp2_with (fail))
      go_ret
      exact ⟨by first | rfl | (simp [*, errW_none, errW_some] <;> rfl), by repeat (first | (with_reducible first | exact HB.out | apply bN))⟩
     ·rw [if_neg c12] at H
      exact absurd H (by simp)
    ·rw [if_neg c11] at H
     exact absurd H (by simp)


def impl_set_least.l0 : Nat → Int → List Bool → List Bool → Option (Int)
 | 0, _, _, _ => none
 | k + 1, x3, x323000, x323001 => if x3 ≤ (wrap64 ((x323000.length : Int) + (x323001.length : Int))) then ((impl_set_has.f x323000 x323001 x3).bind fun t323 => (if t323 = true then (some x3) else (impl_set_least.l0 k (wrap64 (x3 + 1)) x323000 x323001))) else (some 0)
def impl_set_least.f (k : Nat) (l0_0 : List Bool) (l0_1 : List Bool) : Option (Int) := impl_set_least.l0 k 1 l0_0 l0_1
set_option maxHeartbeats 8000000 in
set_option maxRecDepth 100000 in
theorem impl_set_least.calls (k : Nat) (A0_0 : Option Addr) (c0_0 : Nat) (l0_0 : List Bool) (A0_1 : Option Addr) (c0_1 : Nat) (l0_1 : List Bool) (r : Int) (w : World) (hr0_0 : Kd.C Kd.bool w A0_0 l0_0.length l0_0) (hc0_0 : l0_0.length ≤ c0_0) (hr0_1 : Kd.C Kd.bool w A0_1 l0_1.length l0_1) (hc0_1 : l0_1.length ≤ c0_1) (h : impl_set_least.f k l0_0 l0_1 = some r) :
  Calls Try.prog 83 #[.agg #[.slice A0_0 l0_0.length c0_0, .slice A0_1 l0_1.length c0_1]] w fun e w' => e = .returned (.int .i64 r) ∧ Below w.heap.size w w' := by
 have HR0_0 := aM hr0_0
 have HC0_0 := aM hc0_0
 clear hr0_0 hc0_0
 have HR0_1 := aM hr0_1
 have HC0_1 := aM hc0_1
 clear hr0_1 hc0_1
 have HB := aM (cE w.heap.size w)
 have H : (impl_set_least.l0 k 1 l0_0 l0_1) = some r := h
 clear h
 have H' := aM H
 clear H
 go_enter Try.func83, Try.ntmps83
 go_wp2_with (first | ((with_reducible refine aZ (N := 1) rfl ?_); refine bB ?hg (N := 1) ?hd (cs := #[.slice A0_0 l0_0.length c0_0, .slice A0_1 l0_1.length c0_1]) (t := 56) ?hr ?_; (case hd => rfl); (case hg => rfl); (case hr => first | (go_simp; done)); intro gb322 hg w2 hbox hb; have BK322 := aM hbox; replace HB := aM (aE HB.out hb); clear hb hbox hg))
 go_loopg [3] k (fun kq v3 w' => ∃ (x3_1 : Int), v3 = .int .i64 x3_1 ∧ Aside0 (impl_set_least.l0 kq x3_1 l0_0 l0_1 = some r) ∧ Aside0 (kq ≤ k) ∧ Aside0 (w'.heap[gb322]? = some (.cells #[(.slice A0_0 l0_0.length c0_0), (.slice A0_1 l0_1.length c0_1)] 56 (0, 0))) ∧ Aside0 (Below w.heap.size w w'))
 case atStart => exact ⟨(1), (by rfl), H', ⟨cD _⟩, ⟨by exact BK322.out⟩, ⟨HB.out⟩⟩
 case round =>
  clear H'
  obtain ⟨x3_1, rfl, HA, HK1, BK322, HB⟩ := hrel
  cases gk with
  | zero => exact absurd HA.out (by simp [impl_set_least.l0])
  | succ k1 =>
   have H := HA.out
   clear HA
   simp only [impl_set_least.l0] at H
   by_cases c3 : x3_1 ≤ (wrap64 ((l0_0.length : Int) + (l0_1.length : Int)))
   ·rw [if_pos c3] at H
    have c3b0 : decide (x3_1 ≤ (wrap64 ((l0_0.length : Int) + (l0_1.length : Int)))) = true := aH c3
    clear c3
    replace H := Option.bind_eq_some_iff.mp H
    obtain ⟨t323, A40, H⟩ := H
    replace H : (if t323 = true then (some x3_1) else (impl_set_least.l0 k1 (wrap64 (x3_1 + 1)) l0_0 l0_1)) = some r := H
    have A4 := aM A40
    clear A40
    by_cases c5 : t323 = true
    all_goals
     first
     |replace c5 := Bool.eq_false_iff.mpr c5
     |skip
     subst c5
     first
     |have H1 : (some x3_1) = some r := by rw [if_pos rfl] at H; exact H
     |have H1 : (impl_set_least.l0 k1 (wrap64 (x3_1 + 1)) l0_0 l0_1) = some r := by rw [if_neg (show ¬ (false = true) by decide)] at H; exact H
     clear H
     have H := H1
     clear H1
     first
     |obtain rfl := bU H
     |have H' := aM H
      clear H
     have hcz6_0 : wr.cell? ⟨gb322, 0, none⟩ = some (.slice A0_0 l0_0.length c0_0) := (aA BK322.out 0).trans rfl
     have hcz6_1 : wr.cell? ⟨gb322, 1, none⟩ = some (.slice A0_1 l0_1.length c0_1) := (aA BK322.out 1).trans rfl
     go_wp2_with (first | ((with_reducible refine aY (f := 33) rfl ?_); refine gL 17 Try.func33 #[.agg #[.slice A0_0 l0_0.length c0_0, .slice A0_1 l0_1.length c0_1], .int .i64 x3_1] ?_; (with_reducible refine (impl_set_has.calls _ _ l0_0 _ _ l0_1 x3_1 _ _ ?side1 ?side2 ?side3 ?side4 A4.out).mono ?_); (case side1 => repeat (exact (bF HR0_0.out HB.out))); (case side2 => exact HC0_0.out); (case side3 => repeat (exact (bF HR0_1.out HB.out))); (case side4 => exact HC0_1.out); rintro e w7 ⟨rfl, hb⟩; refine ⟨_, rfl, ?_⟩; replace BK322 := aM (aD (g := gb322) (o := .cells #[.slice A0_0 l0_0.length c0_0, .slice A0_1 l0_1.length c0_1] 56 (0, 0)) BK322.out hb); replace HB := aM (aE HB.out hb); (try clear hb)))
     first
     |go_ret
      exact ⟨by first | rfl | (simp [*, errW_none, errW_some] <;> rfl), HB.out⟩
     |go_roundg k1
      case measure => have := HK1.out; omega
      case rel => exact ⟨(wrap64 (x3_1 + 1)), (by rfl), H', ⟨by have := HK1.out; omega⟩, ⟨by exact BK322.out⟩, ⟨HB.out⟩⟩
   ·rw [if_neg c3] at H
    have c3b0 : decide (x3_1 ≤ (wrap64 ((l0_0.length : Int) + (l0_1.length : Int)))) = false := aK c3
    clear c3
    obtain rfl := bU H
    have hcz10_0 : wr.cell? ⟨gb322, 0, none⟩ = some (.slice A0_0 l0_0.length c0_0) := (aA BK322.out 0).trans rfl
    have hcz10_1 : wr.cell? ⟨gb322, 1, none⟩ = some (.slice A0_1 l0_1.length c0_1) := (aA BK322.out 1).trans rfl
    go_wp2
    go_ret
    exact ⟨by first | rfl | (simp [*, errW_none, errW_some] <;> rfl), HB.out⟩

end Go.Proofs.Ytedhckahjinieaa.Q
