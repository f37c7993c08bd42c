/- The law FnProofDiffer holds for all that it draws. -/
import Derived.Lib.Builder
import Derived.Lib.UnsafeStr
import Derived.Test.YtinjblbfaijhdaaDoorCFnProofDiffer2
import Derived.Test.YtinjblbfaijhdaaDoorCFnProofDiffer10
import Derived.Test.YtinjblbfaijhdaaDoorCFnProofDiffer11
import Derived.Test.YtinjblbfaijhdaaDoorCFnProofDiffer12
namespace Go.Proofs.YtinjblbfaijhdaaDoor.Q
open Go.RowKit Go.Proofs.YtinjblbfaijhdaaDoorW.PrintWords Go.Proofs.YtinjblbfaijhdaaDoorW.PrintLast Go.Proofs.YtinjblbfaijhdaaDoorW.PrintMore
attribute [local go_sem] max2_int min2_int max_two min_two max_three min_three max_four min_four   -- for this text's walks alone
set_option linter.unusedVariables false
set_option linter.unusedSimpArgs false
/-- The signs of a list as a text. -/
def impl_told.sgn (b : Bool) : UInt8 := if b = true then 49 else 48
def impl_told.f (l0 : List Bool) : Option ByteArray := if l0.length < 140737488355328 then some ⟨(l0.map impl_told.sgn).toArray⟩ else none
theorem impl_told.size : (Tryd.prog.info? 111).map (·.size) = some 2 := by kernel_rfl
theorem impl_told.lies : liesAt Tryd.prog Tryd.prog.depth 111 (2 / Tryd.prog.cellsOf 111) 0 111 1 = true := by kernel_rfl
set_option maxHeartbeats 1000000 in
set_option maxRecDepth 100000 in
theorem impl_told.cc_used (b : Nat) (w : World) (h0 : w.cell? ⟨b, 0, none⟩ = some (.pointer (some ⟨b, 0, none⟩))) :
  Calls Tryd.prog 121 #[.pointer (some ⟨b, 0, none⟩)] w fun e w' => e = .returned (.tuple #[]) ∧ w' = w := by
 obtain ⟨j, hj, _⟩ := Option.map_eq_some_iff.1 impl_told.size
 go_enter Tryd.func121, Tryd.ntmps121
 go_wp2
 rw [Lib.run_neq_ptr_same w _ Tryd.underlying109 hj]
 go_wp2
 go_end0
 exact ⟨rfl, rfl⟩
set_option maxHeartbeats 1000000 in
set_option maxRecDepth 100000 in
theorem impl_told.cc_fresh (b : Nat) (w : World) (h0 : w.cell? ⟨b, 0, none⟩ = some (.pointer none)) (hsh : w.shape? b = some (111, 2)) (hfz : w.frozen? ⟨b, 0, none⟩ = false) :
  Calls Tryd.prog 121 #[.pointer (some ⟨b, 0, none⟩)] w fun e w' => e = .returned (.tuple #[]) ∧ w' = w.setCell ⟨b, 0, none⟩ (.pointer (some ⟨b, 0, none⟩)) := by
 obtain ⟨j, hj, hjs⟩ := Option.map_eq_some_iff.1 impl_told.size
 go_enter Tryd.func121, Tryd.ntmps121
 go_wp2
 rw [Lib.run_to_unsafe w ⟨b, 0, none⟩ Tryd.underlying109 Tryd.underlying142 hj (by rw [hjs]; decide) hsh (Nat.zero_lt_succ 1)]
 simp only [Result.andThen]
 rw [Oper.upon_value]
 go_wp2
 rw [run_callFunc_extern Tryd.func132 (by kernel_rfl) (by kernel_rfl) (by kernel_rfl) (e := Extern.AbiNoEscape.same) (by kernel_rfl)]
 rw [Lib.run_noEscape]
 simp only [Result.andThen]
 rw [Oper.upon_value]
 go_wp2
 rw [Lib.run_from_unsafe w ⟨b, 0, none⟩ Tryd.underlying142 Tryd.underlying109 hj hsh impl_told.lies]
 simp only [Result.andThen]
 rw [Oper.upon_value]
 go_wp2
 go_end0
 exact ⟨rfl, rfl⟩
theorem impl_told.cc (B b : Nat) (bs : List Value) (w : World) (h : Lib.IsBuilder 111 5 B b bs w) :
  Calls Tryd.prog 121 #[.pointer (some ⟨b, 0, none⟩)] w fun e w' => e = .returned (.tuple #[]) ∧ (Lib.BuilderAt 111 5 B b (.pointer (some ⟨b, 0, none⟩)) bs w' ∧ Below B w w') := by
 rcases h with h | h
 ·refine (impl_told.cc_fresh b w h.cell0 h.shape h.frozen0).mono ?_
  rintro e w' ⟨rfl, rfl⟩
  exact ⟨rfl, h.used _, (Below.refl B w).setCell (p := ⟨b, 0, none⟩) h.1 _⟩
 ·refine (impl_told.cc_used b w h.cell0).mono ?_
  rintro e w' ⟨rfl, rfl⟩
  exact ⟨rfl, h, Below.refl B _⟩
set_option maxHeartbeats 2000000 in
set_option maxRecDepth 100000 in
theorem impl_told.wb (B b : Nat) (bs : List Value) (c : Int) (w : World) (h : Lib.IsBuilder 111 5 B b bs w) (hlen : bs.length + 1 ≤ 140737488355328) (hBw : B ≤ w.heap.size) :
  Calls Tryd.prog 105 #[.pointer (some ⟨b, 0, none⟩), .int .u8 c] w fun e w' => e = .returned .nilIface ∧ (Lib.BuilderAt 111 5 B b (.pointer (some ⟨b, 0, none⟩)) (bs ++ [.int .u8 c]) w' ∧ Below B w w') := by
 obtain ⟨i0, hi, hz0, hz1, hz2⟩ := info_parts (P := Tryd.prog) (e := 5) info5
 go_enter Tryd.func105, Tryd.ntmps105
 go_wp2_with (go_at_call 121; refine (impl_told.cc B b bs _ h).mono ?_)
 rintro e w1 ⟨rfl, h1, hb1⟩
 obtain ⟨hB, v, hbk, hown, hne⟩ := h1
 have c0 : w1.cell? ⟨b, 0, none⟩ = some (.pointer (some ⟨b, 0, none⟩)) := by rw [Lib.cell_of_heap hbk]; rfl
 have c1 : w1.cell? ⟨b, 1, none⟩ = some v := by rw [Lib.cell_of_heap hbk]; rfl
 go_wp2_with (at_builtin; refine wpList_append_own _ rfl _ _ 22 rfl B 5 i0 (.int .u8 0) 1 1 Tryd.underlying22 hi hz0 hz1 hz2 rfl (by decide) _ _ _ rfl (hown.alloc _) ⟨w1.heap.size, 0, none⟩ 1 1 [.int .u8 c] rfl rfl ?c1 ?c2 ?c3 ?c4 ?c5 ?_)
 case c1 =>
  intro j u hj
  match j, hj with
  | 0, hj => simp at hj; subst hj; simp [Addr.add]
 case c2 => intro u hu; simp at hu; subst hu; rfl
 case c3 => unfold maxLen; omega
 case c4 => omega
 case c5 => have := hb1.size; simp; omega
 intro v' w2 hown' hgrow _
 have hlt : b < w1.heap.size := by
  rcases Nat.lt_or_ge b w1.heap.size with h' | h'
  ·exact h'
  ·simp [Array.getElem?_eq_none h'] at hbk
 have hb2 : w2.heap[b]? = some (.cells #[.pointer (some ⟨b, 0, none⟩), v] 111 (0, 0)) := by
  rw [hgrow.block b (by simp; omega) (fun e => hne e.symm), Lib.alloc_old w1 _ b hlt]
  exact hbk
 have d0 : w2.cell? ⟨b, 0, none⟩ = some (.pointer (some ⟨b, 0, none⟩)) := by rw [Lib.cell_of_heap hb2]; rfl
 have d1 : w2.cell? ⟨b, 1, none⟩ = some v := by rw [Lib.cell_of_heap hb2]; rfl
 have f1 : w2.frozen? ⟨b, 1, none⟩ = false := Lib.frozen_of_heap hb2 1
 obtain ⟨g, cap, rfl⟩ : ∃ g cap, v' = .slice (some ⟨g, 0, none⟩) (bs.length + 1) cap := by
  rcases hown'.2 with ⟨_, h0⟩ | ⟨g, cap, cur, hv, _⟩
  ·omega
  ·exact ⟨g, cap, hv⟩
 go_wp2
 go_ret
 refine ⟨rfl, ?_, ?_⟩
 ·exact Lib.BuilderAt.put (T := 111) (e := 5) hB hb2 (bs' := bs ++ [.int .u8 c]) (by simpa using hown') (by decide)
 ·exact ((hb1.alloc (by have := hb1.size; omega) _).grown hgrow (by have := hb1.size; simp; omega) (fun k hk => (hown.lt k hk).1)).setCell (p := ⟨b, 1, none⟩) hB _
theorem impl_told.take (l : List Bool) (k : Nat) (b : Bool) (h : k < l.length) (e : l.getD k false = b) : Lib.byteCells ((l.take (k + 1)).map impl_told.sgn) = Lib.byteCells ((l.take k).map impl_told.sgn) ++ [.int .u8 ((impl_told.sgn b).toNat : Int)] := by
 rw [List.take_succ_eq_append_getElem h, List.map_append, Lib.byteCells_append]
 have : l[k] = b := by rw [← e]; simp [List.getD, List.getElem?_eq_getElem h]
 rw [this]; rfl
set_option maxHeartbeats 1000000 in
set_option maxRecDepth 100000 in
theorem impl_told.calls (A0 : Option Addr) (c0 : Nat) (l0 : List Bool) (r : ByteArray) (w : World) (hr0 : Kd.C Kd.bool w A0 l0.length l0) (hc0 : l0.length ≤ c0) (h : impl_told.f l0 = some r) :
  Calls Tryd.prog 91 #[.slice A0 l0.length c0] w fun e w' => e = .returned (.string r) ∧ Below w.heap.size w w' := by
 unfold impl_told.f at h
 split at h
 case isFalse => cases h
 rename_i hs
 obtain rfl := Option.some.inj h
 clear h
 have HR := Lib.hid (Kd.reads_of_C (d := false) hr0)
 clear hr0 hc0
 go_enter Tryd.func91, Tryd.ntmps91
 go_wp2
 go_loopw [8] (fun v8 wr => ∃ k : Nat, k ≤ l0.length ∧ v8 = .int .i64 k ∧ Aside0 (Lib.IsBuilder 111 5 w.heap.size w.heap.size (Lib.byteCells ((l0.take k).map impl_told.sgn)) wr) ∧ Aside0 (Below w.heap.size w wr)) (fun v8 _ => l0.length - (intOf v8).toNat)
 case atStart => exact ⟨0, Nat.zero_le _, rfl, ⟨Lib.fresh_isBuilder 111 5 w⟩, ⟨(Below.refl _ w).alloc (Nat.le_refl _) _⟩⟩
 case round =>
  obtain ⟨k, hk, rfl, HI, HB⟩ := hrel
  by_cases hlt : k < l0.length
  ·obtain ⟨ad, had, hcell⟩ := (ReadsOf.below HR.out HB.out).at_ (k : Int) (by omega) (by omega)
   subst had
   simp only [Int.toNat_natCast] at hcell
   have hlen : (Lib.byteCells ((l0.take k).map impl_told.sgn)).length + 1 ≤ 140737488355328 := by rw [Lib.byteCells_length, List.length_map, List.length_take]; omega
   have hsz := HB.out.size
   have hrd : rdOf false l0 (k : Int) = l0.getD k false := by simp [rdOf]
   rw [hrd] at hcell
   cases hv : l0.getD k false with
   | true =>
    have HT := Lib.hid (impl_told.take l0 k true hlt hv)
    rw [hv] at hcell
    clear hv hrd
    go_wp2_with (go_at_call 105; refine (impl_told.wb w.heap.size w.heap.size _ 49 _ HI.out hlen hsz).mono ?_)
    rintro e W1 ⟨rfl, h1, b1⟩
    have H1 := Aside0.mk h1; have B1 := Aside0.mk b1; clear h1 b1
    go_wp2
    go_roundw
    case rel => exact ⟨k + 1, by omega, by go_num, ⟨by rw [HT.out]; exact Or.inr H1.out⟩, ⟨HB.out.trans B1.out⟩⟩
    case measure => simp [intOf]; omega
   | false =>
    have HT := Lib.hid (impl_told.take l0 k false hlt hv)
    rw [hv] at hcell
    clear hv hrd
    go_wp2_with (go_at_call 105; refine (impl_told.wb w.heap.size w.heap.size _ 48 _ HI.out hlen hsz).mono ?_)
    rintro e W1 ⟨rfl, h1, b1⟩
    have H1 := Aside0.mk h1; have B1 := Aside0.mk b1; clear h1 b1
    go_wp2
    go_roundw
    case rel => exact ⟨k + 1, by omega, by go_num, ⟨by rw [HT.out]; exact Or.inr H1.out⟩, ⟨HB.out.trans B1.out⟩⟩
    case measure => simp [intOf]; omega
  ·obtain rfl : k = l0.length := by omega
   have HI2 := HI.out
   rw [List.take_of_length_le (Nat.le_refl _)] at HI2
   have hsz := HB.out.size
   go_wp2_with (go_at_call 106; refine (Tryd.Builder_String_any w.heap.size w.heap.size _ _ HI2 hsz).mono ?_)
   rintro e W1 ⟨rfl, b1⟩
   have B1 := Aside0.mk b1; clear b1
   go_wp2
   go_ret
   exact ⟨rfl, HB.out.trans B1.out⟩

def impl_set_text.j0 : Nat → Bool → List Bool → List Bool → Option (ByteArray × Bool)
 | 0, _, _, _ => none
 | k + 1, x13, x846000, x846001 => if x13 = true then (some ((⟨#[]⟩ : ByteArray), false)) else ((impl_told.f x846000).bind fun t846 => (if t846.size + 1 ≤ 9223372036854775807 then ((impl_told.f x846001).bind fun t847 => (if t846.size + 1 + t847.size ≤ 9223372036854775807 then (if t846.size + 1 + t847.size + 1 ≤ 9223372036854775807 then (some (((t846 ++ (⟨#[40]⟩ : ByteArray)) ++ t847) ++ (⟨#[41]⟩ : ByteArray), true)) else (none)) else (none))) else (none)))
def impl_set_text.f (k : Nat) (l0_0 : List Bool) (l0_1 : List Bool) : Option (ByteArray × Bool) := if (l0_0.length : Int) > 60 then (impl_set_text.j0 k true l0_0 l0_1) else (impl_set_text.j0 k (decide ((l0_1.length : Int) > 60)) l0_0 l0_1)
theorem impl_set_text.mono_l : ∀ k, (∀ y0 y1 y2, LeO (impl_set_text.j0 k y0 y1 y2) (impl_set_text.j0 (k + 1) y0 y1 y2))
 | 0 => fun _ _ _ r h => by simp [impl_set_text.j0] at h
 | k + 1 => by
  have ih0 := impl_set_text.mono_l k
  ·intro y0 y1 y2
   unfold impl_set_text.j0
   repeat' (with_reducible exact LeO.refl _)
theorem impl_set_text.mono : ∀ a0 a1 k, LeO (impl_set_text.f k a0 a1) (impl_set_text.f (k + 1) a0 a1) := by
 intro a0 a1 k
 have ih0 := impl_set_text.mono_l k
 unfold impl_set_text.f
 repeat' first | (with_reducible exact ih0 _ _ _) | (with_reducible refine LeO.ite ?_ ?_)
def impl_set_text.T3 : Bool × List (List Nat × List Nat) := (true, [([], []), ([0], [0]), ([1], [1]), ([2], [2]), ([], []), ([4], [4]), ([5, 2], [5]), ([3, 6], [3, 6]), ([7], [7]), ([8, 6, 0, 1, 2, 3, 4, 5, 6, 7, 8], [8]), ([9, 0, 1, 2, 3, 4, 5, 6, 7, 8, 9], [])])
def impl_set_text.B3 : List Nat := [0, 1, 3, 7, 0, 16, 55, 127, 255, 511, 1023]
theorem impl_set_text.tab3 : rtab .any (opsOf Tryd.f82 3) = impl_set_text.T3 := by kernel_rfl
theorem impl_set_text.bits3 : waitsOk impl_set_text.T3.2 impl_set_text.B3 = true := by kernel_rfl
set_option maxHeartbeats 8000000 in
set_option maxRecDepth 100000 in
theorem impl_set_text.calls (k : Nat) (A0_0 : Option Addr) (c0_0 : Nat) (l0_0 : List Bool) (A0_1 : Option Addr) (c0_1 : Nat) (l0_1 : List Bool) (r1 : ByteArray) (r2 : Bool) (w : World) (hr0_0 : Kd.C Kd.bool w A0_0 l0_0.length l0_0) (hc0_0 : l0_0.length ≤ c0_0) (hr0_1 : Kd.C Kd.bool w A0_1 l0_1.length l0_1) (hc0_1 : l0_1.length ≤ c0_1) (h : impl_set_text.f k l0_0 l0_1 = some (r1, r2)) :
  Calls Tryd.prog 82 #[.agg #[.slice A0_0 l0_0.length c0_0, .slice A0_1 l0_1.length c0_1]] w fun e w' => e = .returned (.tuple #[.string r1, .bool r2]) ∧ Below w.heap.size w w' := by
 have hu49 := Tryd.underlying49
 have HR0_0 := Aside0.mk hr0_0
 have HC0_0 := Aside0.mk hc0_0
 clear hr0_0 hc0_0
 have HR0_1 := Aside0.mk hr0_1
 have HC0_1 := Aside0.mk hc0_1
 clear hr0_1 hc0_1
 have HB := Aside0.mk (Below.refl w.heap.size w)
 have H : (if (l0_0.length : Int) > 60 then (impl_set_text.j0 k true l0_0 l0_1) else (impl_set_text.j0 k (decide ((l0_1.length : Int) > 60)) l0_0 l0_1)) = some (r1, r2) := h
 clear h
 have HC2 := Aside0.mk H
 clear H
 go_enter Tryd.func82, Tryd.ntmps82
 go_upto_region 1 with (first | ((with_reducible refine gate_dst (N := 1) rfl ?_); (try (refine gate_guard (by rfl) ?_; dsimp only)); refine box_event ?hg (N := 1) ?hd (cs := #[.slice A0_0 l0_0.length c0_0, .slice A0_1 l0_1.length c0_1]) (t := 49) ?hr ?_; (case hd => rfl); (case hg => rfl); (case hr => first | (go_simp; done)); intro gb845 hg w3 hbox hb; have BK845 := Aside0.mk hbox; have GW845 := Aside0.mk ((by rw [hg]; exact (below_size HB.out) : w.heap.size ≤ gb845)); have GE845 := Aside0.mk ((by rw [hg]; exact (below_size HB.out) : w.heap.size ≤ gb845)); replace HB := Aside0.mk (below_step HB.out hb); clear hb hbox hg))
 go_cut [13] (fun v13 wc => ∃ (kq : Nat) (x13_1 : Bool), v13 = .bool x13_1 ∧ Aside0 (impl_set_text.j0 kq x13_1 l0_0 l0_1 = some (r1, r2)) ∧ Aside0 (kq ≤ k) ∧ Aside0 (wc.heap[gb845]? = some (.cells #[(.slice A0_0 l0_0.length c0_0), (.slice A0_1 l0_1.length c0_1)] 49 (0, 0))) ∧ Aside0 (Below w.heap.size w wc))
 case first =>
  have H := HC2.out
  clear HC2
  by_cases c4 : (l0_0.length : Int) > 60
  ·rw [if_pos c4] at H
   have c4b0 : decide (60 < (l0_0.length : Int)) = true := decide_eq_true c4
   have c4b1 : decide (60 < l0_0.length) = true := decide_eq_true (by omega)
   clear c4
   have H' := Aside0.mk H
   clear H
   have hcz5_0 : w3.cell? ⟨gb845, 0, none⟩ = some (.slice A0_0 l0_0.length c0_0) := (blk_cell BK845.out 0).trans rfl
   have hcz5_1 : w3.cell? ⟨gb845, 1, none⟩ = some (.slice A0_1 l0_1.length c0_1) := (blk_cell BK845.out 1).trans rfl
   have hfz5_0 := blk_frozen BK845.out 0
   have hfz5_1 := blk_frozen BK845.out 1
   go_wp2
   go_meet
   case rel => exact ⟨_, (true), (by rfl), H', ⟨by omega⟩, ⟨by exact BK845.out⟩, ⟨HB.out⟩⟩
  ·rw [if_neg c4] at H
   have c4b0 : decide (60 < (l0_0.length : Int)) = false := decide_eq_false c4
   have c4b1 : decide (60 < l0_0.length) = false := decide_eq_false (by omega)
   clear c4
   have H' := Aside0.mk H
   clear H
   have hcz6_0 : w3.cell? ⟨gb845, 0, none⟩ = some (.slice A0_0 l0_0.length c0_0) := (blk_cell BK845.out 0).trans rfl
   have hcz6_1 : w3.cell? ⟨gb845, 1, none⟩ = some (.slice A0_1 l0_1.length c0_1) := (blk_cell BK845.out 1).trans rfl
   have hfz6_0 := blk_frozen BK845.out 0
   have hfz6_1 := blk_frozen BK845.out 1
   go_wp2
   go_meet
   case rel => exact ⟨_, (decide ((l0_1.length : Int) > 60)), (by rfl), H', ⟨by omega⟩, ⟨by exact BK845.out⟩, ⟨HB.out⟩⟩
 case rest =>
  clear HC2
  obtain ⟨kq, x13_1, rfl, HA, HJ1, BK845, HB⟩ := hcut
  cases kq with
  | zero => exact absurd HA.out (by simp [impl_set_text.j0])
  | succ kj1 =>
   have H := HA.out
   clear HA
   simp only [impl_set_text.j0] at H
   by_cases c7 : x13_1 = true
   ·subst c7
    replace H : (some ((⟨#[]⟩ : ByteArray), false)) = some (r1, r2) := by rw [if_pos rfl] at H; exact H
    simp only [Option.some.injEq, Prod.mk.injEq] at H
    obtain ⟨rfl, rfl⟩ := H
    go_wp2
    go_ret2
    exact ⟨by first | rfl | (simp [*, errW_none, errW_some] <;> rfl), HB.out⟩
   ·replace c7 := Bool.eq_false_iff.mpr c7
    subst c7
    replace H : ((impl_told.f l0_0).bind fun t846 => (if t846.size + 1 ≤ 9223372036854775807 then ((impl_told.f l0_1).bind fun t847 => (if t846.size + 1 + t847.size ≤ 9223372036854775807 then (if t846.size + 1 + t847.size + 1 ≤ 9223372036854775807 then (some (((t846 ++ (⟨#[40]⟩ : ByteArray)) ++ t847) ++ (⟨#[41]⟩ : ByteArray), true)) else (none)) else (none))) else (none))) = some (r1, r2) := by rw [if_neg (show ¬ (false = true) by decide)] at H; exact H
    replace H := Option.bind_eq_some_iff.mp H
    obtain ⟨t846, A80, H⟩ := H
    replace H : (if t846.size + 1 ≤ 9223372036854775807 then ((impl_told.f l0_1).bind fun t847 => (if t846.size + 1 + t847.size ≤ 9223372036854775807 then (if t846.size + 1 + t847.size + 1 ≤ 9223372036854775807 then (some (((t846 ++ (⟨#[40]⟩ : ByteArray)) ++ t847) ++ (⟨#[41]⟩ : ByteArray), true)) else (none)) else (none))) else (none)) = some (r1, r2) := H
    have A8 := Aside0.mk A80
    clear A80
    by_cases c9 : t846.size + 1 ≤ 9223372036854775807
    ·rw [if_pos c9] at H
     have c9b0 := eq_true c9
     have c9b1 : decide (t846.size + 1 ≤ 9223372036854775807) = true := decide_eq_true c9
     try have c9b2 : (9223372036854775807 < t846.size + 1) = False := eq_false (Nat.not_lt.2 c9)
     replace H := Option.bind_eq_some_iff.mp H
     obtain ⟨t847, A100, H⟩ := H
     replace H : (if t846.size + 1 + t847.size ≤ 9223372036854775807 then (if t846.size + 1 + t847.size + 1 ≤ 9223372036854775807 then (some (((t846 ++ (⟨#[40]⟩ : ByteArray)) ++ t847) ++ (⟨#[41]⟩ : ByteArray), true)) else (none)) else (none)) = some (r1, r2) := H
     have A10 := Aside0.mk A100
     clear A100
     by_cases c11 : t846.size + 1 + t847.size ≤ 9223372036854775807
     ·rw [if_pos c11] at H
      have c11b0 := eq_true c11
      have c11b1 : decide (t846.size + 1 + t847.size ≤ 9223372036854775807) = true := decide_eq_true c11
      try have c11b2 : (9223372036854775807 < t846.size + 1 + t847.size) = False := eq_false (Nat.not_lt.2 c11)
      by_cases c12 : t846.size + 1 + t847.size + 1 ≤ 9223372036854775807
      ·rw [if_pos c12] at H
       have c12b0 := eq_true c12
       have c12b1 : decide (t846.size + 1 + t847.size + 1 ≤ 9223372036854775807) = true := decide_eq_true c12
       try have c12b2 : (9223372036854775807 < t846.size + 1 + t847.size + 1) = False := eq_false (Nat.not_lt.2 c12)
       simp only [Option.some.injEq, Prod.mk.injEq] at H
       obtain ⟨rfl, rfl⟩ := H
       try go_wp2
       replace BK845 := Aside0.mk (blk_drew BK845.out)
       replace HB := Aside0.mk (below_drew1 HB.out)
       refine start_ (n := 11) (S := fun w' => w'.cell? ⟨gb845, 0, none⟩ = some (.slice A0_0 l0_0.length c0_0) ∧ w'.cell? ⟨gb845, 1, none⟩ = some (.slice A0_1 l0_1.length c0_1)) (ds := []) #[false, false, false, false, false, false, false, false, false, false, false] (by kernel_rfl) rfl rfl ⟨(blk_cell BK845.out 0).trans rfl, (blk_cell BK845.out 1).trans rfl⟩ (fun hHeld => ?_); refine with_tabW impl_set_text.tab3 impl_set_text.bits3 (fun HT_ HW_ => ?_)
       generalize wc.drew = w13 at BK845 HB hHeld ⊢
       refine pure_ (i := 0) (N := some 14) (v := ?_) (a' := ?_) #[true, false, false, false, false, false, false, false, false, false, false] rfl rfl (any_of HT_.out (by kernel_rfl)) (fun _ _ _ h => h) (Or.inl ⟨by rfl, ?_⟩) ?_ ?_
       rotate_left
       ·intro w'
        go_simp
        with_reducible rfl
       rotate_left
       ·simp only [Act.put, List.setIfInBounds_toArray, List.set_cons_zero, List.set_cons_succ, i64_w, i32_w]
        rfl
       refine pure_ (i := 4) (N := some 18) (v := ?_) (a' := ?_) #[true, false, false, false, true, false, false, false, false, false, false] rfl rfl (any_of HT_.out (by kernel_rfl)) (fun _ _ _ h => h) (Or.inl ⟨by rfl, ?_⟩) ?_ ?_
       rotate_left
       ·intro w'
        go_simp
        with_reducible rfl
       rotate_left
       ·simp only [Act.put, List.setIfInBounds_toArray, List.set_cons_zero, List.set_cons_succ, i64_w, i32_w]
        rfl
       refine take_ (i := 1) (N := some 15) (v := ?_) (a' := ?_) #[true, true, false, false, true, false, false, false, false, false, false] rfl rfl (take_ofW HT_.out HW_.out (by kernel_rfl)) (fun _ _ _ h => h) (Or.inl ⟨by rfl, ?_⟩) hHeld ?_ ?_
       rotate_left
       ·rintro w' ⟨s0, s1⟩
        go_simp
        with_reducible rfl
       rotate_left
       ·simp only [Act.put, List.setIfInBounds_toArray, List.set_cons_zero, List.set_cons_succ, i64_w, i32_w]
        rfl
       refine take_ (i := 5) (N := some 19) (v := ?_) (a' := ?_) #[true, true, false, false, true, true, false, false, false, false, false] rfl rfl (take_ofW HT_.out HW_.out (by kernel_rfl)) (fun _ _ _ h => h) (Or.inl ⟨by rfl, ?_⟩) hHeld ?_ ?_
       rotate_left
       ·rintro w' ⟨s0, s1⟩
        go_simp
        with_reducible rfl
       rotate_left
       ·simp only [Act.put, List.setIfInBounds_toArray, List.set_cons_zero, List.set_cons_succ, i64_w, i32_w]
        rfl
       refine one_ (i := 2) (N := some 16) #[true, true, true, false, true, true, false, false, false, false, false] rfl rfl (one_of HT_.out (by kernel_rfl)) (by decide) (fun K hK => ?_)
       refine goes_ Tryd.func91 (by kernel_rfl) rfl #[.slice A0_0 l0_0.length c0_0] (by rfl) rfl rfl (by (try simp only [List.map_toArray, List.map_cons, List.map_nil]); rfl) ?_
       with_reducible refine (impl_told.calls _ _ l0_0 t846 _ ?side1 ?side2 A8.out).mono ?_
       (case side1 => repeat (exact (Kd.C_below HR0_0.out HB.out)))
       (case side2 => exact HC0_0.out)
       rintro e w14 ⟨rfl, hb⟩
       refine ⟨_, rfl, ?_⟩
       replace BK845 := Aside0.mk (blk_below (g := gb845) (o := .cells #[.slice A0_0 l0_0.length c0_0, .slice A0_1 l0_1.length c0_1] 49 (0, 0)) BK845.out hb)
       replace HB := Aside0.mk (below_step HB.out hb)
       (try clear hb)
       refine hK.out _ _ ⟨(blk_cell BK845.out 0).trans rfl, (blk_cell BK845.out 1).trans rfl⟩ (fun hHeld => ?_)
       clear hK K
       refine norm_ (a' := ?_) ?_ ?_
       rotate_left
       ·show Act.put _ (some 16) _ = _
        simp only [Act.put, List.setIfInBounds_toArray, List.set_cons_zero, List.set_cons_succ, i64_w, i32_w]
        rfl
       refine pure_ (i := 3) (N := some 17) (v := ?_) (a' := ?_) #[true, true, true, true, true, true, false, false, false, false, false] rfl rfl (any_of HT_.out (by kernel_rfl)) (fun _ _ _ h => h) (Or.inl ⟨by rfl, ?_⟩) ?_ ?_
       rotate_left
       ·intro w'
        go_simp
        with_reducible rfl
       rotate_left
       ·simp only [Act.put, List.setIfInBounds_toArray, List.set_cons_zero, List.set_cons_succ, i64_w, i32_w]
        rfl
       refine one_ (i := 6) (N := some 20) #[true, true, true, true, true, true, true, false, false, false, false] rfl rfl (one_of HT_.out (by kernel_rfl)) (by decide) (fun K hK => ?_)
       refine goes_ Tryd.func91 (by kernel_rfl) rfl #[.slice A0_1 l0_1.length c0_1] (by rfl) rfl rfl (by (try simp only [List.map_toArray, List.map_cons, List.map_nil]); rfl) ?_
       with_reducible refine (impl_told.calls _ _ l0_1 t847 _ ?side1 ?side2 A10.out).mono ?_
       (case side1 => repeat (exact (Kd.C_below HR0_1.out HB.out)))
       (case side2 => exact HC0_1.out)
       rintro e w15 ⟨rfl, hb⟩
       refine ⟨_, rfl, ?_⟩
       replace BK845 := Aside0.mk (blk_below (g := gb845) (o := .cells #[.slice A0_0 l0_0.length c0_0, .slice A0_1 l0_1.length c0_1] 49 (0, 0)) BK845.out hb)
       replace HB := Aside0.mk (below_step HB.out hb)
       (try clear hb)
       refine hK.out _ _ ⟨(blk_cell BK845.out 0).trans rfl, (blk_cell BK845.out 1).trans rfl⟩ (fun hHeld => ?_)
       clear hK K
       refine norm_ (a' := ?_) ?_ ?_
       rotate_left
       ·show Act.put _ (some 20) _ = _
        simp only [Act.put, List.setIfInBounds_toArray, List.set_cons_zero, List.set_cons_succ, i64_w, i32_w]
        rfl
       refine pure_ (i := 7) (N := some 21) (v := ?_) (a' := ?_) #[true, true, true, true, true, true, true, true, false, false, false] rfl rfl (any_of HT_.out (by kernel_rfl)) (fun _ _ _ h => h) (Or.inl ⟨by rfl, ?_⟩) ?_ ?_
       rotate_left
       ·intro w'
        go_simp
        with_reducible rfl
       rotate_left
       ·simp only [Act.put, List.setIfInBounds_toArray, List.set_cons_zero, List.set_cons_succ, i64_w, i32_w]
        rfl
       refine pure_ (i := 8) (N := some 22) (v := ?_) (a' := ?_) #[true, true, true, true, true, true, true, true, true, false, false] rfl rfl (any_of HT_.out (by kernel_rfl)) (fun _ _ _ h => h) (Or.inl ⟨by rfl, ?_⟩) ?_ ?_
       rotate_left
       ·intro w'
        go_simp
        with_reducible rfl
       rotate_left
       ·simp only [Act.put, List.setIfInBounds_toArray, List.set_cons_zero, List.set_cons_succ, i64_w, i32_w]
        rfl
       refine pure_ (i := 9) (N := some 2) (v := ?_) (a' := ?_) #[true, true, true, true, true, true, true, true, true, true, false] rfl rfl (any_of HT_.out (by kernel_rfl)) (fun _ _ _ h => h) (Or.inl ⟨by rfl, ?_⟩) ?_ ?_
       rotate_left
       ·intro w'
        go_simp
        with_reducible rfl
       rotate_left
       ·simp only [Act.put, List.setIfInBounds_toArray, List.set_cons_zero, List.set_cons_succ, i64_w, i32_w]
        rfl
       refine pure_ (i := 10) (N := some 3) (v := ?_) (a' := ?_) #[true, true, true, true, true, true, true, true, true, true, true] rfl rfl (any_of HT_.out (by kernel_rfl)) (fun _ _ _ h => h) (Or.inl ⟨by rfl, ?_⟩) ?_ ?_
       rotate_left
       ·intro w'
        go_simp
        with_reducible rfl
       rotate_left
       ·simp only [Act.put, List.setIfInBounds_toArray, List.set_cons_zero, List.set_cons_succ, i64_w, i32_w]
        rfl
       refine done_ (done_of HT_.out (by kernel_rfl)) ?_
       try go_wp2
       go_ret2
       exact ⟨by first | rfl | (simp [*, errW_none, errW_some] <;> rfl), HB.out⟩
      ·rw [if_neg c12] at H
       exact absurd H (by simp)
     ·rw [if_neg c11] at H
      exact absurd H (by simp)
    ·rw [if_neg c9] at H
     exact absurd H (by simp)


def impl_SetTidy.f (k : Nat) (a0 : ByteArray) : Option (ByteArray × Bool) := (impl_tidied.f k a0).bind fun bt848 => (if bt848.2.2 = true then ((impl_set_text.f k bt848.1 bt848.2.1).bind fun bt856 => (some (bt856.1, bt856.2))) else (some ((⟨#[]⟩ : ByteArray), false)))
theorem impl_SetTidy.mono : ∀ a0 k, LeO (impl_SetTidy.f k a0) (impl_SetTidy.f (k + 1) a0) := by
 intro a0 k
 unfold impl_SetTidy.f
 repeat' first | (with_reducible exact impl_set_text.mono _ _ _) | (with_reducible exact impl_tidied.mono _ _) | (with_reducible exact LeO.refl _) | (with_reducible refine LeO.ite ?_ ?_) | (with_reducible refine LeO.bind ?_ (fun _ => ?_))
set_option maxHeartbeats 8000000 in
set_option maxRecDepth 100000 in
theorem impl_SetTidy.calls (k : Nat) (a0 : ByteArray) (r1 : ByteArray) (r2 : Bool) (w : World) (h : impl_SetTidy.f k a0 = some (r1, r2)) :
  Calls Tryd.prog 64 #[.string a0] w fun e w' => e = .returned (.tuple #[.string r1, .bool r2]) ∧ Below w.heap.size w w' := by
 have hu49 := Tryd.underlying49
 have HB := Aside0.mk (Below.refl w.heap.size w)
 have H : ((impl_tidied.f k a0).bind fun bt848 => (if bt848.2.2 = true then ((impl_set_text.f k bt848.1 bt848.2.1).bind fun bt856 => (some (bt856.1, bt856.2))) else (some ((⟨#[]⟩ : ByteArray), false)))) = some (r1, r2) := h
 clear h
 replace H := Option.bind_eq_some_iff.mp H
 obtain ⟨⟨t848, t851, t854⟩, A20, H⟩ := H
 replace H : (if t854 = true then ((impl_set_text.f k t848 t851).bind fun bt856 => (some (bt856.1, bt856.2))) else (some ((⟨#[]⟩ : ByteArray), false))) = some (r1, r2) := H
 have A2 := Aside0.mk A20
 clear A20
 by_cases c3 : t854 = true
 ·subst c3
  replace H : ((impl_set_text.f k t848 t851).bind fun bt856 => (some (bt856.1, bt856.2))) = some (r1, r2) := by rw [if_pos rfl] at H; exact H
  replace H := Option.bind_eq_some_iff.mp H
  obtain ⟨⟨t856, t857⟩, A40, H⟩ := H
  replace H : (some (t856, t857)) = some (r1, r2) := H
  have A4 := Aside0.mk A40
  clear A40
  simp only [Option.some.injEq, Prod.mk.injEq] at H
  obtain ⟨rfl, rfl⟩ := H
  go_enter Tryd.func64, Tryd.ntmps64
  go_wp2_with (first | ((with_reducible refine gate_callee (f := 66) rfl ?_); refine goesL_ (some 8) rfl rfl Tryd.func66 (by kernel_rfl) rfl #[.string a0] rfl (by (try simp only [List.map_toArray, List.map_cons, List.map_nil]); rfl) ?_; (with_reducible refine (impl_tidied.calls k a0 t848 t851 true _ A2.out).mono ?_); rintro e w5 ⟨v849, v852, rfl, ho0, ho1, hb⟩; refine ⟨_, rfl, ?_⟩; have HO850 := Aside0.mk (Kd.R_lower ho0 (below_size HB.out)); have HO853 := Aside0.mk (Kd.R_lower ho1 (below_size HB.out)); replace HB := Aside0.mk (below_step HB.out hb); (try clear hb); (try clear ho0); (try clear ho1)) | ((with_reducible refine gate_dst (N := 4) rfl ?_); refine box_event ?hg (N := 4) ?hd (cs := #[.slice none 0 0, .slice none 0 0]) (t := 49) ?hr ?_; (case hd => rfl); (case hg => rfl); (case hr => first | (go_simp; done)); intro gb855 hg w6 hbox hb; replace HO850 := Aside0.mk (Kd.R_below HO850.out hb); replace HO853 := Aside0.mk (Kd.R_below HO853.out hb); have BK855 := Aside0.mk hbox; have GW855 := Aside0.mk ((by rw [hg]; exact (below_size HB.out) : w.heap.size ≤ gb855)); have GE855 := Aside0.mk ((by rw [hg]; exact (below_size HB.out) : w.heap.size ≤ gb855)); replace HB := Aside0.mk (below_step HB.out hb); clear hb hbox hg; obtain ⟨Ao7, co7, eo7⟩ := Kd.R_slice HO850.out; subst eo7; have hcz8_0 : w6.cell? ⟨gb855, 0, none⟩ = some (.slice none 0 0) := (blk_cell BK855.out 0).trans rfl; have hcz8_1 : w6.cell? ⟨gb855, 1, none⟩ = some (.slice none 0 0) := (blk_cell BK855.out 1).trans rfl; have hfz8_0 := blk_frozen BK855.out 0; have hfz8_1 := blk_frozen BK855.out 1; obtain ⟨Ao9, co9, eo9⟩ := Kd.R_slice HO853.out; subst eo9) | ((with_reducible refine gate_callee (f := 82) rfl ?_); refine goesL_ (some 14) rfl rfl Tryd.func82 (by kernel_rfl) rfl #[.agg #[.slice Ao7 t848.length co7, .slice Ao9 t851.length co9]] rfl (by (try simp only [List.map_toArray, List.map_cons, List.map_nil]); rfl) ?_; (with_reducible refine (impl_set_text.calls k _ _ t848 _ _ t851 t856 t857 _ ?side1 ?side2 ?side3 ?side4 A4.out).mono ?_); (case side1 => refine (Kd.R_reads' (e := 4) (base := w.heap.size) (ok := fun k_ => some k_ ≠ (.slice Ao9 t851.length co9 : Value).ownBlock) (n := t848.length) (c := co7) ?_).2.2; exact (by exact (Kd.R_mono (Kd.R_far (p := ⟨gb855, 1, none⟩) (Kd.R_far (p := ⟨gb855, 0, none⟩) (Kd.R_types HO850.out BK855.out (by decide)) (fun _ hk => hk.2) (.slice Ao7 t848.length co7)) (fun _ hk => hk.2) (.slice Ao9 t851.length co9)) (fun _ h_ => h_.1)))); (case side2 => exact (Kd.R_reads' HO850.out).2.1); (case side3 => refine (Kd.R_reads' (e := 4) (base := w.heap.size) (ok := fun k_ => some k_ ≠ (.slice Ao7 t848.length co7 : Value).ownBlock) (n := t851.length) (c := co9) ?_).2.2; exact (by exact (Kd.R_mono (Kd.R_far (p := ⟨gb855, 1, none⟩) (Kd.R_far (p := ⟨gb855, 0, none⟩) (Kd.R_types HO853.out BK855.out (by decide)) (fun _ hk => hk.2) (.slice Ao7 t848.length co7)) (fun _ hk => hk.2) (.slice Ao9 t851.length co9)) (fun _ h_ => h_.1)))); (case side4 => exact (Kd.R_reads' HO853.out).2.1); rintro e w10 ⟨rfl, hb⟩; refine ⟨_, rfl, ?_⟩; replace HO850 := Aside0.mk (Kd.R_below (by exact (Kd.R_mono (Kd.R_far (p := ⟨gb855, 1, none⟩) (Kd.R_far (p := ⟨gb855, 0, none⟩) (Kd.R_types HO850.out BK855.out (by decide)) (fun _ hk => hk.2) (.slice Ao7 t848.length co7)) (fun _ hk => hk.2) (.slice Ao9 t851.length co9)) (fun _ h_ => h_.1))) hb); replace HO853 := Aside0.mk (Kd.R_below (by exact (Kd.R_mono (Kd.R_far (p := ⟨gb855, 1, none⟩) (Kd.R_far (p := ⟨gb855, 0, none⟩) (Kd.R_types HO853.out BK855.out (by decide)) (fun _ hk => hk.2) (.slice Ao7 t848.length co7)) (fun _ hk => hk.2) (.slice Ao9 t851.length co9)) (fun _ h_ => h_.1))) hb); replace BK855 := Aside0.mk (blk_below (g := gb855) (o := .cells #[.slice Ao7 t848.length co7, .slice Ao9 t851.length co9] 49 (0, 0)) (by refine blk_put (cs := #[.slice Ao7 t848.length co7, .slice none 0 0]) ?_ 1 _ rfl; refine blk_put (cs := #[.slice none 0 0, .slice none 0 0]) ?_ 0 _ rfl; exact BK855.out) hb); replace HB := Aside0.mk (below_step (by repeat (first | (with_reducible first | exact HB.out | refine below_set ?_ GE855.out))) hb); (try clear hb)))
  go_ret2
  exact ⟨by first | rfl | (simp [*, errW_none, errW_some] <;> rfl), HB.out⟩
 ·replace c3 := Bool.eq_false_iff.mpr c3
  subst c3
  replace H : (some ((⟨#[]⟩ : ByteArray), false)) = some (r1, r2) := by rw [if_neg (show ¬ (false = true) by decide)] at H; exact H
  simp only [Option.some.injEq, Prod.mk.injEq] at H
  obtain ⟨rfl, rfl⟩ := H
  go_enter Tryd.func64, Tryd.ntmps64
  go_wp2_with (first | ((with_reducible refine gate_callee (f := 66) rfl ?_); refine goesL_ (some 8) rfl rfl Tryd.func66 (by kernel_rfl) rfl #[.string a0] rfl (by (try simp only [List.map_toArray, List.map_cons, List.map_nil]); rfl) ?_; (with_reducible refine (impl_tidied.calls k a0 t848 t851 false _ A2.out).mono ?_); rintro e w11 ⟨v849, v852, rfl, ho0, ho1, hb⟩; refine ⟨_, rfl, ?_⟩; have HO850 := Aside0.mk (Kd.R_lower ho0 (below_size HB.out)); have HO853 := Aside0.mk (Kd.R_lower ho1 (below_size HB.out)); replace HB := Aside0.mk (below_step HB.out hb); (try clear hb); (try clear ho0); (try clear ho1)) | ((with_reducible refine gate_dst (N := 4) rfl ?_); refine box_event ?hg (N := 4) ?hd (cs := #[.slice none 0 0, .slice none 0 0]) (t := 49) ?hr ?_; (case hd => rfl); (case hg => rfl); (case hr => first | (go_simp; done)); intro gb855 hg w12 hbox hb; replace HO850 := Aside0.mk (Kd.R_below HO850.out hb); replace HO853 := Aside0.mk (Kd.R_below HO853.out hb); have BK855 := Aside0.mk hbox; have GW855 := Aside0.mk ((by rw [hg]; exact (below_size HB.out) : w.heap.size ≤ gb855)); have GE855 := Aside0.mk ((by rw [hg]; exact (below_size HB.out) : w.heap.size ≤ gb855)); replace HB := Aside0.mk (below_step HB.out hb); clear hb hbox hg; obtain ⟨Ao13, co13, eo13⟩ := Kd.R_slice HO850.out; subst eo13; have hcz14_0 : w12.cell? ⟨gb855, 0, none⟩ = some (.slice none 0 0) := (blk_cell BK855.out 0).trans rfl; have hcz14_1 : w12.cell? ⟨gb855, 1, none⟩ = some (.slice none 0 0) := (blk_cell BK855.out 1).trans rfl; have hfz14_0 := blk_frozen BK855.out 0; have hfz14_1 := blk_frozen BK855.out 1; obtain ⟨Ao15, co15, eo15⟩ := Kd.R_slice HO853.out; subst eo15))
  go_ret2
  exact ⟨by first | rfl | (simp [*, errW_none, errW_some] <;> rfl), by repeat (first | (with_reducible first | exact HB.out | refine below_set ?_ GE855.out))⟩


def impl_SetSame.f (k : Nat) (a0 : ByteArray) (a1 : ByteArray) : Option (Bool) := (impl_SetTidy.f k a0).bind fun bt858 => ((impl_SetTidy.f k a1).bind fun bt860 => (if bt858.2 = true then (if bt860.2 = true then (some (bt858.1.toList == bt860.1.toList)) else (some false)) else (some false)))
theorem impl_SetSame.mono : ∀ a0 a1 k, LeO (impl_SetSame.f k a0 a1) (impl_SetSame.f (k + 1) a0 a1) := by
 intro a0 a1 k
 unfold impl_SetSame.f
 repeat' first | (with_reducible exact impl_SetTidy.mono _ _) | (with_reducible exact LeO.refl _) | (with_reducible refine LeO.bind ?_ (fun _ => ?_))
set_option maxHeartbeats 8000000 in
set_option maxRecDepth 100000 in
theorem impl_SetSame.calls (k : Nat) (a0 : ByteArray) (a1 : ByteArray) (r : Bool) (w : World) (h : impl_SetSame.f k a0 a1 = some r) :
  Calls Tryd.prog 33 #[.string a0, .string a1] w fun e w' => e = .returned (.bool r) ∧ Below w.heap.size w w' := by
 have HB := Aside0.mk (Below.refl w.heap.size w)
 have H : ((impl_SetTidy.f k a0).bind fun bt858 => ((impl_SetTidy.f k a1).bind fun bt860 => (if bt858.2 = true then (if bt860.2 = true then (some (bt858.1.toList == bt860.1.toList)) else (some false)) else (some false)))) = some r := h
 clear h
 replace H := Option.bind_eq_some_iff.mp H
 obtain ⟨⟨t858, t859⟩, A30, H⟩ := H
 replace H : ((impl_SetTidy.f k a1).bind fun bt860 => (if t859 = true then (if bt860.2 = true then (some (t858.toList == bt860.1.toList)) else (some false)) else (some false))) = some r := H
 have A3 := Aside0.mk A30
 clear A30
 replace H := Option.bind_eq_some_iff.mp H
 obtain ⟨⟨t860, t861⟩, A40, H⟩ := H
 replace H : (if t859 = true then (if t861 = true then (some (t858.toList == t860.toList)) else (some false)) else (some false)) = some r := H
 have A4 := Aside0.mk A40
 clear A40
 by_cases c5 : t859 = true
 ·subst c5
  replace H : (if t861 = true then (some (t858.toList == t860.toList)) else (some false)) = some r := by rw [if_pos rfl] at H; exact H
  by_cases c6 : t861 = true
  all_goals
   first
   |replace c6 := Bool.eq_false_iff.mpr c6
   |skip
   subst c6
   first
   |have H1 : (some (t858.toList == t860.toList)) = some r := by rw [if_pos rfl] at H; exact H
   |have H1 : (some false) = some r := by rw [if_neg (show ¬ (false = true) by decide)] at H; exact H
   clear H
   have H := H1
   clear H1
   obtain rfl := Option.some.inj H
   go_enter Tryd.func33, Tryd.ntmps33
   go_wp2_with (first | ((with_reducible refine gate_callee (f := 64) rfl ?_); refine goesL_ (some 11) rfl rfl Tryd.func64 (by kernel_rfl) rfl #[.string a0] rfl (by (try simp only [List.map_toArray, List.map_cons, List.map_nil]); rfl) ?_; (with_reducible refine (impl_SetTidy.calls k a0 t858 true _ A3.out).mono ?_); rintro e w7 ⟨rfl, hb⟩; refine ⟨_, rfl, ?_⟩; replace HB := Aside0.mk (below_step HB.out hb); (try clear hb)) | ((with_reducible refine gate_callee (f := 64) rfl ?_); refine goesL_ (some 16) rfl rfl Tryd.func64 (by kernel_rfl) rfl #[.string a1] rfl (by (try simp only [List.map_toArray, List.map_cons, List.map_nil]); rfl) ?_; (with_reducible refine (impl_SetTidy.calls k a1 t860 _ _ A4.out).mono ?_); rintro e w8 ⟨rfl, hb⟩; refine ⟨_, rfl, ?_⟩; replace HB := Aside0.mk (below_step HB.out hb); (try clear hb)))
   go_ret
   exact ⟨by first | rfl | (simp [*, errW_none, errW_some] <;> rfl), HB.out⟩
 ·replace c5 := Bool.eq_false_iff.mpr c5
  subst c5
  replace H : (some false) = some r := by rw [if_neg (show ¬ (false = true) by decide)] at H; exact H
  obtain rfl := Option.some.inj H
  go_enter Tryd.func33, Tryd.ntmps33
  go_wp2_with (first | ((with_reducible refine gate_callee (f := 64) rfl ?_); refine goesL_ (some 11) rfl rfl Tryd.func64 (by kernel_rfl) rfl #[.string a0] rfl (by (try simp only [List.map_toArray, List.map_cons, List.map_nil]); rfl) ?_; (with_reducible refine (impl_SetTidy.calls k a0 t858 false _ A3.out).mono ?_); rintro e w11 ⟨rfl, hb⟩; refine ⟨_, rfl, ?_⟩; replace HB := Aside0.mk (below_step HB.out hb); (try clear hb)) | ((with_reducible refine gate_callee (f := 64) rfl ?_); refine goesL_ (some 16) rfl rfl Tryd.func64 (by kernel_rfl) rfl #[.string a1] rfl (by (try simp only [List.map_toArray, List.map_cons, List.map_nil]); rfl) ?_; (with_reducible refine (impl_SetTidy.calls k a1 t860 t861 _ A4.out).mono ?_); rintro e w12 ⟨rfl, hb⟩; refine ⟨_, rfl, ?_⟩; replace HB := Aside0.mk (below_step HB.out hb); (try clear hb)))
  go_ret
  exact ⟨by first | rfl | (simp [*, errW_none, errW_some] <;> rfl), HB.out⟩

end Go.Proofs.YtinjblbfaijhdaaDoor.Q

namespace Go.Proofs.YtinjblbfaijhdaaDoor.Q
open Go.RowKit Go.Proofs.YtinjblbfaijhdaaDoorW.PrintWords Go.Proofs.YtinjblbfaijhdaaDoorW.PrintLast Go.Proofs.YtinjblbfaijhdaaDoorW.PrintMore
open Go.Proofs.YtinjblbfaijhdaaDoor.Pl
set_option linter.unusedVariables false
set_option linter.unusedSimpArgs false
/-- What is told of a set: the text of its tidy form, if this is not too long. -/
def Told (f : Nat → Bool) (x : ByteArray × Bool) : Prop := ∃ t r, Canon t r ∧ (∀ n, hasB t r n = f n) ∧ x = if t.length ≤ 60 ∧ r.length ≤ 60 then (text t r, true) else ((⟨#[]⟩ : ByteArray), false)
theorem Told.unique {f : Nat → Bool} {x y : ByteArray × Bool} (h : Told f x) (k : Told f y) : x = y := by
  obtain ⟨t, r, h1, h2, rfl⟩ := h
  obtain ⟨t', r', k1, k2, rfl⟩ := k
  obtain ⟨rfl, rfl⟩ := canon_unique h1 k1 (fun n => by rw [h2, k2])
  rfl
theorem Told.congr {f g : Nat → Bool} {x : ByteArray × Bool} (h : Told f x) (e : ∀ n, f n = g n) : Told g x := by
  obtain ⟨t, r, h1, h2, h3⟩ := h
  exact ⟨t, r, h1, fun n => by rw [h2, e], h3⟩
theorem Told.no {f : Nat → Bool} {x : ByteArray × Bool} (h : Told f x) (e : x.2 = false) : x = ((⟨#[]⟩ : ByteArray), false) := by
  obtain ⟨t, r, h1, h2, rfl⟩ := h
  by_cases c : t.length ≤ 60 ∧ r.length ≤ 60
  · rw [if_pos c] at e; cases e
  · rw [if_neg c]
theorem told_eq (l : List Bool) (h : l.length ≤ 1000000) : impl_told.f l = some ⟨(tell l).toArray⟩ := by
  unfold impl_told.f
  rw [if_pos (by omega)]
  rfl
theorem tell_size (l : List Bool) : (⟨(tell l).toArray⟩ : ByteArray).size = l.length := tell_length l
theorem ba_ext {a b : ByteArray} (h : a.data.toList = b.data.toList) : a = b := by
  obtain ⟨⟨a⟩⟩ := a; obtain ⟨⟨b⟩⟩ := b; simp at h; simp [h]
theorem ba_append (a b : ByteArray) : (a ++ b).data.toList = a.data.toList ++ b.data.toList := by simp
theorem text_eq (t r : List Bool) : (((⟨(tell t).toArray⟩ : ByteArray) ++ (⟨#[40]⟩ : ByteArray)) ++ (⟨(tell r).toArray⟩ : ByteArray)) ++ (⟨#[41]⟩ : ByteArray) = text t r := by
  refine ba_ext ?_
  rw [ba_append, ba_append, ba_append]
  simp [text, textL]
theorem text_ev {t r : List Bool} (ht : t.length ≤ 60) (hr : r.length ≤ 60) : Ev (fun k => impl_set_text.f k t r) (text t r, true) := by
  unfold impl_set_text.f
  refine Ev.eq (funext fun k => if_neg (by omega)) ?_
  rw [decide_eq_false (by omega)]
  refine Ev.end fun k => ?_
  simp only [impl_set_text.j0, Bool.false_eq_true, if_false]
  rw [told_eq t (by omega), told_eq r (by omega)]
  simp only [Option.bind_some, tell_size]
  rw [if_pos (by omega), if_pos (by omega), if_pos (by omega), text_eq]
def num (b : Bool) : Int := if b = true then 49 else 48
end Go.Proofs.YtinjblbfaijhdaaDoor.Q
