/- The clock: equality of slices. -/
import Derived.Test.YtjcenhgfonhidaaClockA
set_option linter.unusedSimpArgs false
set_option linter.unusedVariables false
set_option maxHeartbeats 4000000
namespace Go.Proofs.Ytjcenhgfonhidaa
open Go Go.Tl Go.RowKit

def us (xs : List Int) : List AV := xs.map (.int .u64 ·)
theorem us_len (xs : List Int) : (us xs).length = xs.length := by simp [us]
theorem us_get (xs : List Int) (i : Nat) (h : i < xs.length) : (us xs)[i]? = some (.int .u64 xs[i]) := by simp [us, h]

theorem c11 (xs ys : List Int) (hb : xs.length ≤ 1000000) : PureN G 11 [.fs (us xs) xs.length, .fs (us ys) ys.length] (.bool (decide (xs = ys))) := by
  refine PureN.intro pls11 _ _ Try.func11 rfl Try.ntmps11 Try.results11 (by simp) plan11 ?_
  simp -implicitDefEqProofs only [go_sem, Nat.reduceLT, Nat.reduceAdd, Nat.reduceMul, Nat.reduceMod, Nat.reduceDiv, Nat.reduceSub, Nat.reduceBEq, Nat.reduceEqDiff, Nat.reduceBNe, Nat.reduceLeDiff, Int.reduceLT, Int.reduceLE, Int.reduceGT, Int.reduceGE, Int.reduceAdd, Int.reduceSub, Int.reduceNeg, Int.reduceMul, Int.reduceEq, Int.reduceBEq, Int.reduceBNe, Int.reduceToNat, decide_true, decide_false, reduceIte]
  refine condF_split (fun h => ?_) (fun h => ?_)
  · simp -implicitDefEqProofs only [go_sem, Nat.reduceLT, Nat.reduceAdd, Nat.reduceMul, Nat.reduceMod, Nat.reduceDiv, Nat.reduceSub, Nat.reduceBEq, Nat.reduceEqDiff, Nat.reduceBNe, Nat.reduceLeDiff, Int.reduceLT, Int.reduceLE, Int.reduceGT, Int.reduceGE, Int.reduceAdd, Int.reduceSub, Int.reduceNeg, Int.reduceMul, Int.reduceEq, Int.reduceBEq, Int.reduceBNe, Int.reduceToNat, decide_true, decide_false, reduceIte]
    have : xs ≠ ys := fun e => by subst e; simp at h
    simp [this]
  · have hlen : xs.length = ys.length := by simp at h; omega
    simp -implicitDefEqProofs only [go_sem, Nat.reduceLT, Nat.reduceAdd, Nat.reduceMul, Nat.reduceMod, Nat.reduceDiv, Nat.reduceSub, Nat.reduceBEq, Nat.reduceEqDiff, Nat.reduceBNe, Nat.reduceLeDiff, Int.reduceLT, Int.reduceLE, Int.reduceGT, Int.reduceGE, Int.reduceAdd, Int.reduceSub, Int.reduceNeg, Int.reduceMul, Int.reduceEq, Int.reduceBEq, Int.reduceBNe, Int.reduceToNat, decide_true, decide_false, reduceIte]
    refine loop_ind (fun m l σ => ∃ i : Nat, i ≤ xs.length ∧ m = xs.length - i ∧ σ = [] ∧ lk l 0 = .fs (us xs) xs.length ∧ lk l 1 = .fs (us ys) ys.length ∧ lk l 12 = .int .i64 xs.length ∧ lk l 13 = .int .i64 i ∧ ∀ j, j < i → xs[j]? = ys[j]?)
      ⟨0, Nat.zero_le _, rfl, rfl, by simp -implicitDefEqProofs only [go_sem, Nat.reduceLT, Nat.reduceAdd, Nat.reduceMul, Nat.reduceMod, Nat.reduceDiv, Nat.reduceSub, Nat.reduceBEq, Nat.reduceEqDiff, Nat.reduceBNe, Nat.reduceLeDiff, Int.reduceLT, Int.reduceLE, Int.reduceGT, Int.reduceGE, Int.reduceAdd, Int.reduceSub, Int.reduceNeg, Int.reduceMul, Int.reduceEq, Int.reduceBEq, Int.reduceBNe, Int.reduceToNat, decide_true, decide_false, reduceIte], by simp -implicitDefEqProofs only [go_sem, Nat.reduceLT, Nat.reduceAdd, Nat.reduceMul, Nat.reduceMod, Nat.reduceDiv, Nat.reduceSub, Nat.reduceBEq, Nat.reduceEqDiff, Nat.reduceBNe, Nat.reduceLeDiff, Int.reduceLT, Int.reduceLE, Int.reduceGT, Int.reduceGE, Int.reduceAdd, Int.reduceSub, Int.reduceNeg, Int.reduceMul, Int.reduceEq, Int.reduceBEq, Int.reduceBNe, Int.reduceToNat, decide_true, decide_false, reduceIte], by simp -implicitDefEqProofs only [go_sem, Nat.reduceLT, Nat.reduceAdd, Nat.reduceMul, Nat.reduceMod, Nat.reduceDiv, Nat.reduceSub, Nat.reduceBEq, Nat.reduceEqDiff, Nat.reduceBNe, Nat.reduceLeDiff, Int.reduceLT, Int.reduceLE, Int.reduceGT, Int.reduceGE, Int.reduceAdd, Int.reduceSub, Int.reduceNeg, Int.reduceMul, Int.reduceEq, Int.reduceBEq, Int.reduceBNe, Int.reduceToNat, decide_true, decide_false, reduceIte], by (first | (simp -implicitDefEqProofs only [go_sem, Nat.reduceLT, Nat.reduceAdd, Nat.reduceMul, Nat.reduceMod, Nat.reduceDiv, Nat.reduceSub, Nat.reduceBEq, Nat.reduceEqDiff, Nat.reduceBNe, Nat.reduceLeDiff, Int.reduceLT, Int.reduceLE, Int.reduceGT, Int.reduceGE, Int.reduceAdd, Int.reduceSub, Int.reduceNeg, Int.reduceMul, Int.reduceEq, Int.reduceBEq, Int.reduceBNe, Int.reduceToNat, decide_true, decide_false, reduceIte] ; done) | (simp -implicitDefEqProofs only [go_sem, Nat.reduceLT, Nat.reduceAdd, Nat.reduceMul, Nat.reduceMod, Nat.reduceDiv, Nat.reduceSub, Nat.reduceBEq, Nat.reduceEqDiff, Nat.reduceBNe, Nat.reduceLeDiff, Int.reduceLT, Int.reduceLE, Int.reduceGT, Int.reduceGE, Int.reduceAdd, Int.reduceSub, Int.reduceNeg, Int.reduceMul, Int.reduceEq, Int.reduceBEq, Int.reduceBNe, Int.reduceToNat, decide_true, decide_false, reduceIte] ; rfl)), fun j hj => absurd hj (Nat.not_lt_zero j)⟩ (fun m l σ hI => ?_)
    obtain ⟨i, hi, rfl, rfl, h0, h1, h12, h13, hp⟩ := hI
    simp -implicitDefEqProofs only [go_sem, Nat.reduceLT, Nat.reduceAdd, Nat.reduceMul, Nat.reduceMod, Nat.reduceDiv, Nat.reduceSub, Nat.reduceBEq, Nat.reduceEqDiff, Nat.reduceBNe, Nat.reduceLeDiff, Int.reduceLT, Int.reduceLE, Int.reduceGT, Int.reduceGE, Int.reduceAdd, Int.reduceSub, Int.reduceNeg, Int.reduceMul, Int.reduceEq, Int.reduceBEq, Int.reduceBNe, Int.reduceToNat, decide_true, decide_false, reduceIte, h0, h1, h12, h13]
    refine condF_split (fun hc => ?_) (fun hc => ?_)
    · have hlt : (i : Int) < xs.length := by simpa using hc
      have hlt' : (i : Int) < ys.length := by omega
      have hl : i < xs.length := by omega
      have hl' : i < ys.length := by omega
      have hpos : (0 : Int) ≤ i := by omega
      have hx := us_get xs i hl
      have hy := us_get ys i hl'
      simp -implicitDefEqProofs only [go_sem, Nat.reduceLT, Nat.reduceAdd, Nat.reduceMul, Nat.reduceMod, Nat.reduceDiv, Nat.reduceSub, Nat.reduceBEq, Nat.reduceEqDiff, Nat.reduceBNe, Nat.reduceLeDiff, Int.reduceLT, Int.reduceLE, Int.reduceGT, Int.reduceGE, Int.reduceAdd, Int.reduceSub, Int.reduceNeg, Int.reduceMul, Int.reduceEq, Int.reduceBEq, Int.reduceBNe, Int.reduceToNat, decide_true, decide_false, reduceIte, h0, h1, h12, h13, hpos, hlt, hlt', hl, hl', hx, hy, us_len, Nat.mul_one, Int.toNat_natCast]
      refine condF_split (fun hd => ?_) (fun hd => ?_)
      · simp -implicitDefEqProofs only [go_sem, Nat.reduceLT, Nat.reduceAdd, Nat.reduceMul, Nat.reduceMod, Nat.reduceDiv, Nat.reduceSub, Nat.reduceBEq, Nat.reduceEqDiff, Nat.reduceBNe, Nat.reduceLeDiff, Int.reduceLT, Int.reduceLE, Int.reduceGT, Int.reduceGE, Int.reduceAdd, Int.reduceSub, Int.reduceNeg, Int.reduceMul, Int.reduceEq, Int.reduceBEq, Int.reduceBNe, Int.reduceToNat, decide_true, decide_false, reduceIte, h0, h1, h12, h13, hpos, hlt, hlt', hl, hl', hx, hy, us_len, Nat.mul_one, Int.toNat_natCast]
        have hne : xs[i] ≠ ys[i] := by simpa using hd
        have : xs ≠ ys := fun e => hne (by subst e; rfl)
        simp [this]
      · simp -implicitDefEqProofs only [go_sem, Nat.reduceLT, Nat.reduceAdd, Nat.reduceMul, Nat.reduceMod, Nat.reduceDiv, Nat.reduceSub, Nat.reduceBEq, Nat.reduceEqDiff, Nat.reduceBNe, Nat.reduceLeDiff, Int.reduceLT, Int.reduceLE, Int.reduceGT, Int.reduceGE, Int.reduceAdd, Int.reduceSub, Int.reduceNeg, Int.reduceMul, Int.reduceEq, Int.reduceBEq, Int.reduceBNe, Int.reduceToNat, decide_true, decide_false, reduceIte, h0, h1, h12, h13, hpos, hlt, hlt', hl, hl', hx, hy, us_len, Nat.mul_one, Int.toNat_natCast]
        have heq : xs[i] = ys[i] := by simpa using hd
        have hw : IntKind.i64.wrap ((i : Int) + 1) = ((i + 1 : Nat) : Int) := by rw [IntKind.wrap_i64]; omega
        refine loopQ_of (xs.length - (i + 1)) (by omega) ⟨i + 1, by omega, rfl, rfl, by simp -implicitDefEqProofs only [go_sem, Nat.reduceLT, Nat.reduceAdd, Nat.reduceMul, Nat.reduceMod, Nat.reduceDiv, Nat.reduceSub, Nat.reduceBEq, Nat.reduceEqDiff, Nat.reduceBNe, Nat.reduceLeDiff, Int.reduceLT, Int.reduceLE, Int.reduceGT, Int.reduceGE, Int.reduceAdd, Int.reduceSub, Int.reduceNeg, Int.reduceMul, Int.reduceEq, Int.reduceBEq, Int.reduceBNe, Int.reduceToNat, decide_true, decide_false, reduceIte, h0, h1, h12, h13, hpos, hlt, hlt', hl, hl', hx, hy, us_len, Nat.mul_one, Int.toNat_natCast], by simp -implicitDefEqProofs only [go_sem, Nat.reduceLT, Nat.reduceAdd, Nat.reduceMul, Nat.reduceMod, Nat.reduceDiv, Nat.reduceSub, Nat.reduceBEq, Nat.reduceEqDiff, Nat.reduceBNe, Nat.reduceLeDiff, Int.reduceLT, Int.reduceLE, Int.reduceGT, Int.reduceGE, Int.reduceAdd, Int.reduceSub, Int.reduceNeg, Int.reduceMul, Int.reduceEq, Int.reduceBEq, Int.reduceBNe, Int.reduceToNat, decide_true, decide_false, reduceIte, h0, h1, h12, h13, hpos, hlt, hlt', hl, hl', hx, hy, us_len, Nat.mul_one, Int.toNat_natCast], by simp -implicitDefEqProofs only [go_sem, Nat.reduceLT, Nat.reduceAdd, Nat.reduceMul, Nat.reduceMod, Nat.reduceDiv, Nat.reduceSub, Nat.reduceBEq, Nat.reduceEqDiff, Nat.reduceBNe, Nat.reduceLeDiff, Int.reduceLT, Int.reduceLE, Int.reduceGT, Int.reduceGE, Int.reduceAdd, Int.reduceSub, Int.reduceNeg, Int.reduceMul, Int.reduceEq, Int.reduceBEq, Int.reduceBNe, Int.reduceToNat, decide_true, decide_false, reduceIte, h0, h1, h12, h13, hpos, hlt, hlt', hl, hl', hx, hy, us_len, Nat.mul_one, Int.toNat_natCast], by simp -implicitDefEqProofs only [go_sem, Nat.reduceLT, Nat.reduceAdd, Nat.reduceMul, Nat.reduceMod, Nat.reduceDiv, Nat.reduceSub, Nat.reduceBEq, Nat.reduceEqDiff, Nat.reduceBNe, Nat.reduceLeDiff, Int.reduceLT, Int.reduceLE, Int.reduceGT, Int.reduceGE, Int.reduceAdd, Int.reduceSub, Int.reduceNeg, Int.reduceMul, Int.reduceEq, Int.reduceBEq, Int.reduceBNe, Int.reduceToNat, decide_true, decide_false, reduceIte, h0, h1, h12, h13, hw], fun j hj => ?_⟩
        rcases Nat.lt_or_ge j i with hj' | hj'
        · exact hp j hj'
        · obtain rfl : j = i := by omega
          simp [hl, hl', heq]
    · have hge : i = xs.length := by simp at hc; omega
      simp -implicitDefEqProofs only [go_sem, Nat.reduceLT, Nat.reduceAdd, Nat.reduceMul, Nat.reduceMod, Nat.reduceDiv, Nat.reduceSub, Nat.reduceBEq, Nat.reduceEqDiff, Nat.reduceBNe, Nat.reduceLeDiff, Int.reduceLT, Int.reduceLE, Int.reduceGT, Int.reduceGE, Int.reduceAdd, Int.reduceSub, Int.reduceNeg, Int.reduceMul, Int.reduceEq, Int.reduceBEq, Int.reduceBNe, Int.reduceToNat, decide_true, decide_false, reduceIte, h0, h1, h12, h13]
      have : xs = ys := List.ext_getElem? fun j => by
        rcases Nat.lt_or_ge j i with hj | hj
        · exact hp j hj
        · rw [List.getElem?_eq_none (by omega), List.getElem?_eq_none (by omega)]
      simp [this]

end Go.Proofs.Ytjcenhgfonhidaa

