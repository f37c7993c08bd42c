/- The law FnProofDifferIs holds for all that it draws. -/
import Derived.Lib.ItoaNum
import Derived.Test.YtinjblbfaijhdaaDoorCFnProofDifferIs10
import Derived.Test.YtinjblbfaijhdaaDoorCFnProofDifferIs13
import Derived.Test.YtinjblbfaijhdaaDoorCFnProofDifferIs14
namespace Go.Proofs.YtinjblbfaijhdaaDoor.Q
open Go.RowKit Go.Proofs.YtinjblbfaijhdaaDoorW.PrintWords Go.Proofs.YtinjblbfaijhdaaDoorW.PrintLast Go.Proofs.YtinjblbfaijhdaaDoorW.PrintMore
open Go.Proofs.YtinjblbfaijhdaaDoor.Pl
set_option linter.unusedVariables false
set_option linter.unusedSimpArgs false
def dec (n : Nat) : ByteArray := ⟨(Lib.decDigits n).toArray⟩
theorem ba_ext' {a b : ByteArray} (h : a.data.toList = b.data.toList) : a = b := by
  cases a; cases b; simp only at h; congr; exact Array.toList_inj.1 h
theorem dec_len (n : Nat) : (Lib.decDigits n).length ≤ n + 1 := by
  induction n using Nat.strongRecOn with
  | ind n ih =>
    rw [Lib.decDigits]
    split
    · simp
    · have := ih (n / 10) (by omega)
      simp only [List.length_append, List.length_cons, List.length_nil]
      omega
theorem dec_size (n : Nat) : (dec n).size ≤ n + 1 := dec_len n
theorem dec_ev (n : Nat) (hn : n ≤ 1000000000) : Ev (fun k => spec_l6Dec.f k n) (dec n) := by
  induction n using Nat.strongRecOn with
  | ind n ih =>
    by_cases c : n < 10
    · refine Ev.end fun k => ?_
      simp only [spec_l6Dec.f]
      rw [if_neg (by omega), if_neg (by omega), if_pos (by omega), wr (x := 48 + (n : Int)) (by omega) (by omega)]
      congr 1
      refine ba_ext' ?_
      show ([(48 + (n : Int)) % 256].map fun x : Int => UInt8.ofNat x.toNat) = Lib.decDigits n
      rw [Lib.decDigits, dif_pos c]
      have : ((48 + (n : Int)) % 256).toNat = 48 + n := by omega
      simp only [List.map_cons, List.map_nil, this]
    · have k1 := ih (n / 10) (by omega) (by omega)
      refine Ev.step (f := fun k => (spec_l6Dec.f k ((n / 10 : Nat) : Int)).bind fun t => if t.size + (strOfNums [48 + ((n % 10 : Nat) : Int)]).size ≤ 9223372036854775807 then some (t ++ strOfNums [48 + ((n % 10 : Nat) : Int)]) else none) (fun k => ?_) ?_
      · simp only [spec_l6Dec.f]
        rw [if_neg (by omega), if_neg (by omega), if_neg (by omega), show Int.tdiv (n : Int) 10 = ((n / 10 : Nat) : Int) from tdiv_nat n 10, show Int.tmod (n : Int) 10 = ((n % 10 : Nat) : Int) from tmod_nat n 10, wr (x := ((n / 10 : Nat) : Int)) (by omega) (by omega), wr (x := 48 + ((n % 10 : Nat) : Int)) (by omega) (by omega)]
        have : (48 + ((n % 10 : Nat) : Int)) % 256 = 48 + ((n % 10 : Nat) : Int) := by omega
        rw [this]
        rfl
      · refine Ev.bind k1 (Ev.const fun k => ?_)
        have h1 := dec_size (n / 10)
        have h2 : (strOfNums [48 + ((n % 10 : Nat) : Int)]).size = 1 := rfl
        rw [if_pos (by omega)]
        congr 1
        refine ba_ext' ?_
        have e : (48 + ((n % 10 : Nat) : Int)).toNat = 48 + n % 10 := by omega
        rw [ByteArray.data_append, Array.toList_append]
        show Lib.decDigits (n / 10) ++ ([48 + ((n % 10 : Nat) : Int)].map fun x : Int => UInt8.ofNat x.toNat) = Lib.decDigits n
        rw [Lib.decDigits.eq_def n, dif_neg c]
        simp only [List.map_cons, List.map_nil, e]

def first_ : ByteArray := ⟨#[102, 105, 114, 115, 116]⟩
def second_ : ByteArray := ⟨#[115, 101, 99, 111, 110, 100]⟩
end Go.Proofs.YtinjblbfaijhdaaDoor.Q
