/- The law FnProofSum holds for all that it draws. -/
import Derived.Test.YtinjblbfaijhdaaDoorCFnProofSum5
import Derived.Test.YtinjblbfaijhdaaDoorCFnProofSum9
import Derived.Test.YtinjblbfaijhdaaDoorCFnProofSum11
import Derived.Test.YtinjblbfaijhdaaDoorCFnProofSum13
import Derived.Test.YtinjblbfaijhdaaDoorCFnProofSum14
import Derived.Test.YtinjblbfaijhdaaDoorCFnProofSum15
namespace Go.Proofs.YtinjblbfaijhdaaDoor.Q
open Go.RowKit Go.Proofs.YtinjblbfaijhdaaDoorW.PrintWords Go.Proofs.YtinjblbfaijhdaaDoorW.PrintLast Go.Proofs.YtinjblbfaijhdaaDoorW.PrintMore
open Go.Proofs.YtinjblbfaijhdaaDoor.Pl
set_option linter.unusedVariables false
set_option linter.unusedSimpArgs false
/-- The bytes of a text: a word, and numbers of at most five signs, each one behind a space. -/
def Says (s : List UInt8) (w : List UInt8) (ns : List Nat) : Prop := (∀ n ∈ ns, n ≤ 99999) ∧ s = w ++ joinL (ns.map Lib.decDigits)
theorem num_yes (n : Nat) (hn : n ≤ 99999) : impl_numbersOf.num (dec n) = some (n : Int) := by
  unfold impl_numbersOf.num
  rw [show (dec n).data.toList = Lib.decDigits n from rfl, atoi_dec n (by omega)]
  have e : Lib.itoa (n : Int) = Lib.decDigits n := by rw [Lib.itoa, if_neg (by omega), Int.toNat_natCast]
  simp only [e]
  rw [if_pos (by omega)]
  exact if_pos rfl
theorem num_some {s : ByteArray} {v : Int} (h : impl_numbersOf.num s = some v) : ∃ n : Nat, n ≤ 99999 ∧ v = (n : Int) ∧ s.data.toList = Lib.decDigits n := by
  unfold impl_numbersOf.num at h
  split at h
  · split at h
    · rename_i u hu hr
      split at h
      · rename_i he
        obtain rfl := Option.some.inj h
        refine ⟨u.toNat, by omega, by omega, ?_⟩
        rw [← he, Lib.itoa, if_neg (by omega)]
      · cases h
    · cases h
  · cases h
theorem nums_yes (ns : List Nat) (h : ∀ n ∈ ns, n ≤ 99999) : ∀ L : List ByteArray, L.map (·.data.toList) = ns.map Lib.decDigits → impl_numbersOf.nums L = some (ns.map fun y : Nat => (y : Int)) := by
  induction ns with
  | nil =>
    intro L e
    have : L = [] := by simpa using e
    subst this; rfl
  | cons n ns ih =>
    intro L e
    cases L with
    | nil => simp at e
    | cons x L =>
      simp only [List.map_cons, List.cons.injEq] at e
      have hx : x = dec n := ba_ext' e.1
      simp only [impl_numbersOf.nums, hx, num_yes n (h n (List.mem_cons_self ..)), ih (fun m hm => h m (List.mem_cons_of_mem _ hm)) L e.2, Option.bind_some, List.map_cons]
theorem nums_some : ∀ (L : List ByteArray) (l : List Int), impl_numbersOf.nums L = some l → ∃ ns : List Nat, (∀ n ∈ ns, n ≤ 99999) ∧ l = ns.map (fun y : Nat => (y : Int)) ∧ L.map (·.data.toList) = ns.map Lib.decDigits := by
  intro L
  induction L with
  | nil =>
    intro l h
    obtain rfl := Option.some.inj h
    exact ⟨[], (fun n hn => by cases hn), rfl, rfl⟩
  | cons x L ih =>
    intro l h
    simp only [impl_numbersOf.nums] at h
    obtain ⟨v, hv, h⟩ := Option.bind_eq_some_iff.mp h
    obtain ⟨r, hr, h⟩ := Option.bind_eq_some_iff.mp h
    obtain rfl := Option.some.inj h
    obtain ⟨n, n1, rfl, n3⟩ := num_some hv
    obtain ⟨ns, m1, rfl, m3⟩ := ih r hr
    refine ⟨n :: ns, fun k hk => ?_, rfl, by simp [n3, m3]⟩
    rcases List.mem_cons.1 hk with e | e
    · omega
    · exact m1 k e
theorem parts_cut (s : ByteArray) : (impl_numbersOf.parts s).map (·.data.toList) = cutL s.data.toList := by
  have h1 : Lib.countB s impl_numbersOf.sp = s.data.toList.count 32 := Lib.count_one 32 s.data.toList
  unfold impl_numbersOf.parts
  rw [Lib.splitB_data, h1]
  exact splitK_cut _ _ rfl
/-- The program's reader: a list and true just where the text says it. -/
theorem numbersOf_is (s w : ByteArray) (hs : s.size ≤ 1073741824) (hw : ∀ c ∈ w.data.toList, c ≠ 32) : ∃ (l : List Int) (b : Bool), impl_numbersOf.f s w = some (l, b) ∧ (b = true → ∃ ns, Says s.data.toList w.data.toList ns ∧ l = ns.map fun y : Nat => (y : Int)) ∧ ∀ ns, Says s.data.toList w.data.toList ns → b = true := by
  have hp := parts_cut s
  obtain ⟨x, r, h1, h2⟩ := join_cut s.data.toList
  cases hP : impl_numbersOf.parts s with
  | nil => rw [hP, h1] at hp; simp at hp
  | cons p L =>
    rw [hP, h1] at hp
    simp only [List.map_cons, List.cons.injEq] at hp
    unfold impl_numbersOf.f
    rw [if_pos (by omega), hP]
    simp only [List.tail_cons, List.headD_cons]
    have back : ∀ ns, Says s.data.toList w.data.toList ns → x = w.data.toList ∧ r = ns.map Lib.decDigits := by
      intro ns hn
      have := cut_text w.data.toList (ns.map Lib.decDigits) hw (fun d hd c hc => by
        obtain ⟨n, _, rfl⟩ := List.mem_map.1 hd
        exact dec_nospace n c hc)
      rw [← hn.2, h1] at this
      simp only [List.cons.injEq] at this
      exact this
    cases hn : impl_numbersOf.nums L with
    | none =>
      refine ⟨[], false, rfl, (fun h => by cases h), fun ns k => ?_⟩
      obtain ⟨_, e2⟩ := back ns k
      have := nums_yes ns k.1 L (by rw [hp.2, e2])
      rw [hn] at this; cases this
    | some l =>
      obtain ⟨ns, m1, rfl, m3⟩ := nums_some L l hn
      refine ⟨_, _, rfl, fun hb => ⟨ns, ⟨m1, ?_⟩, rfl⟩, fun ns' k => ?_⟩
      · have e : p = w := of_decide_eq_true hb
        rw [h2, ← hp.1, ← hp.2, m3, e]
      · obtain ⟨e1, _⟩ := back ns' k
        have : p = w := ba_ext' (by rw [hp.1, e1])
        simp [this]

def value (v : Nat) (l : List UInt8) : Nat := l.foldl (fun a c => 10 * a + (c.toNat - 48)) v
theorem value_dec (n : Nat) : value 0 (Lib.decDigits n) = n := by
  induction n using Nat.strongRecOn with
  | ind n ih =>
    rw [Lib.decDigits]
    split
    · rename_i h
      show 10 * 0 + ((UInt8.ofNat (48 + n)).toNat - 48) = n
      rw [(digit_of n h).2]; omega
    · have := ih (n / 10) (by omega)
      unfold value at *
      rw [List.foldl_append, this]
      show 10 * (n / 10) + ((UInt8.ofNat (48 + n % 10)).toNat - 48) = n
      rw [(digit_of (n % 10) (by omega)).2]; omega

def sumW : ByteArray := ⟨#[115, 117, 109]⟩
/-- All numbers are of the set and not 0, and their sum is n. -/
def okSum (f : Nat → Bool) (n : Int) : List Nat → Nat → Bool
  | [], a => ((a : Nat) : Int) == n
  | k :: l, a => if k = 0 then false else if f k = true then okSum f n l (a + k) else false
theorem says_len {s w : List UInt8} {ns : List Nat} (h : Says s w ns) : ns.length ≤ s.length := by
  rw [h.2, List.length_append]
  suffices all : ∀ ns : List Nat, ns.length ≤ (joinL (ns.map Lib.decDigits)).length by have := all ns; omega
  intro ns
  induction ns with
  | nil => exact Nat.le_refl _
  | cons n ns ih =>
    show _ ≤ (32 :: (Lib.decDigits n ++ joinL (ns.map Lib.decDigits))).length
    simp only [List.length_cons, List.length_append]; omega
theorem says_inj {s w : List UInt8} {ns ns' : List Nat} (hw : ∀ c ∈ w, c ≠ 32) (h : Says s w ns) (h' : Says s w ns') : ns = ns' := by
  have dn : ∀ ms : List Nat, ∀ d ∈ ms.map Lib.decDigits, ∀ c ∈ d, c ≠ 32 := fun ms d hd c hc => by
    obtain ⟨n, _, rfl⟩ := List.mem_map.1 hd
    exact dec_nospace n c hc
  have e1 := cut_text w (ns.map Lib.decDigits) hw (dn ns)
  have e2 := cut_text w (ns'.map Lib.decDigits) hw (dn ns')
  rw [← h.2] at e1
  rw [← h'.2, e1] at e2
  simp only [List.cons.injEq, true_and] at e2
  have inj : ∀ n m : Nat, Lib.decDigits n = Lib.decDigits m → n = m := fun n m e => by rw [← value_dec n, e, value_dec]
  clear e1 h h' dn
  induction ns generalizing ns' with
  | nil => cases ns' with | nil => rfl | cons _ _ => simp at e2
  | cons n ns ih =>
    cases ns' with
    | nil => simp at e2
    | cons m ns' =>
      simp only [List.map_cons, List.cons.injEq] at e2
      rw [inj n m e2.1, ih e2.2]
theorem sumIs_l0 {t r : List Bool} (g : Good t r) (n : Int) (ns : List Nat) (hb : ∀ x ∈ ns, x ≤ 99999) (hl : ns.length ≤ 1073741824) (d : Nat) : ∀ (i a : Nat), i + d = ns.length → a ≤ 99999 * i →
    Ev (fun k => impl_ProofSumIs.l0 k n (a : Int) (ns.map fun y : Nat => (y : Int)) (ns.length : Nat) (i : Nat) t r) (okSum (hasB t r) n (ns.drop i) a) ∧ Ev (fun k => spec_ProofSumIs.l0 k n (ns.map fun y : Nat => (y : Int)) (a : Int) (i : Nat) t r) (okSum (hasB t r) n (ns.drop i) a) := by
  induction d with
  | zero =>
    intro i a hi ha
    rw [List.drop_eq_nil_of_le (by omega)]
    constructor
    · refine Ev.end fun k => ?_
      simp only [impl_ProofSumIs.l0]
      rw [if_neg (by omega)]; rfl
    · refine Ev.end fun k => ?_
      simp only [spec_ProofSumIs.l0, List.length_map]
      rw [if_neg (by omega)]; rfl
  | succ d ih =>
    intro i a hi ha
    have hil : i < ns.length := by omega
    have hm := hb ns[i] (List.getElem_mem hil)
    have e : ns.drop i = ns[i] :: ns.drop (i + 1) := (List.getElem_cons_drop hil).symm
    obtain ⟨k1, k2⟩ := ih (i + 1) (a + ns[i]) (by omega) (by omega)
    have h1 := set_has g ns[i] (by omega)
    have h2 := l1_has g ns[i] (by omega)
    have hr := rd_at ns i hil
    have hw : wrap64 ((a : Int) + ((ns[i] : Nat) : Int)) = ((a + ns[i] : Nat) : Int) := by rw [wr (by omega) (by omega)]; omega
    rw [e]
    generalize ns[i] = m at *
    simp only [okSum]
    by_cases c0 : m = 0
    · rw [if_pos c0]
      constructor
      · refine Ev.end fun k => ?_
        simp only [impl_ProofSumIs.l0, List.length_map]
        rw [if_pos (by omega), if_pos (by omega), if_pos (by omega), hr, if_pos (by omega)]
      · refine Ev.end fun k => ?_
        simp only [spec_ProofSumIs.l0, List.length_map]
        rw [if_pos (by omega), if_pos (by omega), hr, if_pos (by omega)]
    · rw [if_neg c0]
      cases hc : hasB t r m with
      | true =>
        rw [hc] at h1 h2
        simp only [if_true]
        constructor
        · refine Ev.step (fun k => ?_) k1
          simp only [impl_ProofSumIs.l0, List.length_map]
          rw [if_pos (by omega), if_pos (by omega), if_pos (by omega), hr, if_neg (by omega), h1]
          simp only [Option.bind_some, if_true]
          rw [hw, wr1 (by omega)]
        · refine Ev.step (fun k => ?_) k2
          simp only [spec_ProofSumIs.l0, List.length_map]
          rw [if_pos (by omega), if_pos (by omega), hr, if_neg (by omega), h2]
          simp only [Option.bind_some, if_true]
          rw [hw, wr1 (by omega)]
      | false =>
        rw [hc] at h1 h2
        simp only [Bool.false_eq_true, if_false]
        constructor
        · refine Ev.end fun k => ?_
          simp only [impl_ProofSumIs.l0, List.length_map]
          rw [if_pos (by omega), if_pos (by omega), if_pos (by omega), hr, if_neg (by omega), h1]
          simp
        · refine Ev.end fun k => ?_
          simp only [spec_ProofSumIs.l0, List.length_map]
          rw [if_pos (by omega), if_pos (by omega), hr, if_neg (by omega), h2]
          simp
theorem sumW_nospace : ∀ c ∈ sumW.data.toList, c ≠ 32 := by decide

theorem drawProofSum_ev (l0 : List Int) (h : ∀ x ∈ l0, (Lit.int .u8 x).wf = true) : ∃ (s : ByteArray) (n : Int), s.size ≤ 1000 ∧ -1 ≤ n ∧ n ≤ 41 ∧ Ev (fun k => spec_DrawProofSum.f k l0) (s, n) := by
  obtain ⟨bs, hb, eo⟩ := open_ev l0 h
  obtain ⟨s, q, g1, g2, g3⟩ := set_draw hb 0 (by omega)
  obtain ⟨a, ha, e1⟩ := pick_ev hb q 12 (by omega) (by omega) (by omega)
  obtain ⟨b, hb2, e2⟩ := pick_ev hb (q + 1) 41 (by omega) (by omega) (by omega)
  obtain ⟨c, hc, e3⟩ := pick_ev hb (q + 1 + 1) 20 (by omega) (by omega) (by omega)
  obtain ⟨d, hd, e4⟩ := pick_ev hb (q + 1 + 1 + 1) 7 (by omega) (by omega) (by omega)
  have hr : -1 ≤ rd ([(a : Int), (b : Int), 40, 41, (-1), 0, (c : Int)] : List Int) (d : Int) ∧ rd ([(a : Int), (b : Int), 40, 41, (-1), 0, (c : Int)] : List Int) (d : Int) ≤ 41 := by
    have : d = 0 ∨ d = 1 ∨ d = 2 ∨ d = 3 ∨ d = 4 ∨ d = 5 ∨ d = 6 := by omega
    rcases this with rfl | rfl | rfl | rfl | rfl | rfl | rfl <;> simp [rd] <;> omega
  refine ⟨s, rd ([(a : Int), (b : Int), 40, 41, (-1), 0, (c : Int)] : List Int) (d : Int), by omega, hr.1, hr.2, ?_⟩
  unfold spec_DrawProofSum.f
  rw [eo]; simp only [Option.bind_some]
  refine Ev.bind g3 (Ev.bind e1 (Ev.bind e2 (Ev.bind e3 (Ev.bind e4 (Ev.const fun k => ?_)))))
  rw [if_pos (by omega), if_pos (by simp; omega)]
theorem words_says (l : List Nat) : ∀ x : ByteArray, (wordsB x l).data.toList = x.data.toList ++ joinL (l.map Lib.decDigits) := by
  induction l with
  | nil => intro x; simp [wordsB, joinL]
  | cons n l ih =>
    intro x
    show (wordsB (x ++ (⟨#[32]⟩ : ByteArray) ++ dec n) l).data.toList = _
    rw [ih]
    simp [ByteArray.data_append, dec, joinL]
theorem okSum_way (f : Nat → Bool) (N : Int) : ∀ (m : List Nat) (n a : Nat), IsWay f n (m.map fun y : Nat => (y : Int)) → ((a + n : Nat) : Int) = N → okSum f N m a = true := by
  intro m
  induction m with
  | nil =>
    intro n a h e
    obtain rfl : n = 0 := h
    simpa [okSum] using e
  | cons k m ih =>
    intro n a h e
    obtain ⟨z, hz, h0, hf, h⟩ := h
    obtain rfl : k = z := Int.ofNat_inj.1 hz
    have hz' := fst_le hf
    show (if k = 0 then false else if f k = true then okSum f N m (a + k) else false) = true
    rw [if_neg (by omega), if_pos hz'.2.2.1]
    exact ih (n - k) (a + k) h (by omega)
theorem sumIs_text {s : ByteArray} {t r : List Bool} (g : IsSmall s t r) (n : Int) (x : ByteArray) (hx : x.size ≤ 1073741824) (ns : List Nat) (h : Says x.data.toList sumW.data.toList ns) : Ev (fun k => impl_ProofSumIs.f k s n x) (okSum (hasB t r) n ns 0) := by
  obtain ⟨l, b, e1, i1, i2⟩ := numbersOf_is x sumW hx sumW_nospace
  have hb := i2 ns h
  subst hb
  obtain ⟨ns', n1, rfl⟩ := i1 rfl
  obtain rfl := says_inj sumW_nospace h n1
  have hlen := says_len n1
  rw [size_data] at hlen
  obtain ⟨k1, _⟩ := sumIs_l0 g.good n ns n1.1 (by omega) ns.length 0 0 (by omega) (by omega)
  unfold impl_ProofSumIs.f
  refine Ev.bind g.impl (Ev.bind (Ev.const fun _ => e1) ?_)
  simp only [if_true, Bool.not_true]
  refine Ev.step (fun k => ?_) k1
  simp only [impl_ProofSumIs.j0, Bool.false_eq_true, if_false, List.length_map]
  rfl
/-- What ProofSum answers on a small set, and what is asked of it. -/
theorem proofSum_full {s : ByteArray} {t r : List Bool} (h : IsSmall s t r) (n : Nat) (hn : n ≤ 40) : ∃ (x : ByteArray × Bool) (l : List Int), Ev (fun k => impl_ProofSum.f k s n) x ∧ Ev (fun k => spec_ProofSum.f k s n) x ∧ Ev (fun k => impl_WaysFirst.f k s n) (l, x.2) ∧ (x.2 = true → Ev (fun k => impl_ProofSumIs.f k s n x.1) true) := by
  obtain ⟨res, hres⟩ := firstR_exists (hasB t r) n
  have k1 := waysFirst_impl h n hn res hres
  have k2 := waysFirst_spec h n hn res hres
  rcases hres with ⟨l, hl, rfl⟩ | ⟨hs, rfl⟩
  · obtain ⟨m, rfl, hm⟩ := way_nat _ _ _ hl
    have hlen := way_len _ _ _ hl
    rw [List.length_map] at hlen
    obtain ⟨w1, w2⟩ := words_both sum_ (by decide) m (by omega) (fun x hx => by have := hm x hx; omega)
    refine ⟨(wordsB sum_ m, true), _, ?_, ?_, k1, fun _ => ?_⟩
    · unfold impl_ProofSum.f
      refine Ev.bind k1 ?_
      simp only [if_true]
      exact Ev.bind w1 (Ev.now _)
    · unfold spec_ProofSum.f
      refine Ev.bind k2 ?_
      simp only [if_true]
      exact Ev.bind w2 (Ev.now _)
    · have hsay : Says (wordsB sum_ m).data.toList sumW.data.toList m := ⟨fun x hx => by have := hm x hx; omega, words_says m sum_⟩
      have hsz : (wordsB sum_ m).size ≤ 1073741824 := by
        rw [← size_data, words_says, List.length_append]
        suffices all : ∀ q : List Nat, (∀ x ∈ q, x ≤ 40) → (joinL (q.map Lib.decDigits)).length ≤ 42 * q.length by
          have := all m (fun x hx => by have := hm x hx; omega)
          show sum_.data.toList.length + _ ≤ _
          have e : sum_.data.toList.length = 3 := rfl
          omega
        intro q
        induction q with
        | nil => intro _; simp [joinL]
        | cons y q ih =>
          intro hq
          have h1 := ih (fun x hx => hq x (List.mem_cons_of_mem _ hx))
          have h2 := dec_len y
          have h3 := hq y (List.mem_cons_self ..)
          show (32 :: (Lib.decDigits y ++ joinL (q.map Lib.decDigits))).length ≤ _
          simp only [List.length_cons, List.length_append]
          omega
      have := sumIs_text h (n : Int) (wordsB sum_ m) hsz m hsay
      rw [okSum_way (hasB t r) (n : Int) m n 0 hl (by omega)] at this
      exact this
  · refine ⟨((⟨#[]⟩ : ByteArray), false), [], ?_, ?_, k1, fun h => by cases h⟩
    · unfold impl_ProofSum.f
      refine Ev.bind k1 ?_
      simp only [Bool.false_eq_true, if_false]
      exact Ev.now _
    · unfold spec_ProofSum.f
      refine Ev.bind k2 ?_
      simp only [Bool.false_eq_true, if_false]
      exact Ev.now _

end Go.Proofs.YtinjblbfaijhdaaDoor.Q

namespace Go.Proofs.YtinjblbfaijhdaaDoor.Pure
open Go.RowKit Go.Proofs.YtinjblbfaijhdaaDoor.Q Go.Proofs.YtinjblbfaijhdaaDoorW.PrintWords Go.Proofs.YtinjblbfaijhdaaDoorW.PrintLast
open Go.Proofs.YtinjblbfaijhdaaDoor.Pl
set_option linter.unusedSimpArgs false
set_option linter.unusedVariables false
theorem FnProofSum : laws_FnProofSum.Pure := by
  intro l0 h1 h2 h
  by_cases hz : (l0.length : Int) > 1048576
  · exact ⟨0, by unfold laws_FnProofSum.f; rw [if_pos hz]⟩
  obtain ⟨s, n, hs, n1, n2, hd⟩ := drawProofSum_ev l0 h
  refine Ev.rounds ?_
  unfold laws_FnProofSum.f
  refine Ev.eq (funext fun k => if_neg hz) (Ev.bind hd ?_)
  have cs := small_cases s (by omega)
  have fin : ∀ (x : ByteArray × Bool) (l : List Int), Ev (fun k => impl_ProofSum.f k s n) x → Ev (fun k => spec_ProofSum.f k s n) x → Ev (fun k => impl_WaysFirst.f k s n) (l, x.2) → (x.2 = true → Ev (fun k => impl_ProofSumIs.f k s n x.1) true) →
      Ev (fun k => (impl_ProofSum.f k s n).bind fun bt662 => ((spec_ProofSum.f k s n).bind fun bt664 => (if bt662.1.toList = bt664.1.toList then (laws_FnProofSum.j0 k s n bt662.1 bt662.2 (bt662.2 == bt664.2)) else (laws_FnProofSum.j0 k s n bt662.1 bt662.2 false)))) true := by
    intro x l k1 k2 k3 k4
    refine Ev.bind k1 (Ev.bind k2 (Ev.eq (funext fun k => if_pos rfl) ?_))
    refine Ev.step (f := fun k => (impl_WaysFirst.f k s n).bind fun a => (if (x.2 == a.2) = true then (if x.2 = true then ((impl_ProofSumIs.f k s n x.1).bind fun t => (some t)) else (some true)) else (some false))) (fun k => by simp only [laws_FnProofSum.j0, beq_self_eq_true, if_true]) ?_
    refine Ev.bind k3 ?_
    simp only [beq_self_eq_true, if_true]
    by_cases c : x.2 = true
    · simp only [if_pos c]
      exact Ev.bind (k4 c) (Ev.now _)
    · simp only [if_neg c]
      exact Ev.now _
  by_cases hx : NoSmall s ∨ ¬ (0 ≤ n ∧ n ≤ 40)
  · obtain ⟨e1, e2⟩ := proofSum_no cs hx
    obtain ⟨e3, _⟩ := waysFirst_no cs hx
    exact fin ((⟨#[]⟩ : ByteArray), false) [] e1 e2 e3 (fun h => by cases h)
  · rcases cs with g | ⟨t, r, g⟩
    · exact absurd (.inl g) hx
    · have hn : 0 ≤ n ∧ n ≤ 40 := Decidable.byContradiction fun k => hx (.inr k)
      obtain ⟨m, rfl⟩ : ∃ m : Nat, n = (m : Int) := ⟨n.toNat, by omega⟩
      obtain ⟨x, l, k1, k2, k3, k4⟩ := proofSum_full g m (by omega)
      exact fin x l k1 k2 k3 k4

end Go.Proofs.YtinjblbfaijhdaaDoor.Pure
