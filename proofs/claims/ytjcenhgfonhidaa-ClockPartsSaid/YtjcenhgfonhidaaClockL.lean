/- The clock's laws: runs in parts. -/
import Derived.Test.YtjcenhgfonhidaaClockH
import Derived.Test.YtjcenhgfonhidaaTlU
set_option linter.unusedSimpArgs false
set_option linter.unusedVariables false
set_option maxHeartbeats 4000000
namespace Go.Proofs.Ytjcenhgfonhidaa
open Go Go.Tl Go.RowKit

theorem rr_app : ∀ (ks bs : List Int) (n l : Int), rr n l (ks ++ bs) = if (rr n l ks).2.2 then ((rr (rr n l ks).1.1 (rr n l ks).1.2 bs).1, (rr n l ks).2.1 ++ (rr (rr n l ks).1.1 (rr n l ks).1.2 bs).2.1, (rr (rr n l ks).1.1 (rr n l ks).1.2 bs).2.2) else rr n l ks
  | [], bs, n, l => by simp [rr]
  | a :: ks, bs, n, l => by
    rw [List.cons_append, rr, rr]
    split
    · rw [rr_app ks bs]
      split
      · simp
      · simp
    · simp

theorem rr_rng : ∀ (bs : List Int) (n l : Int), (0 ≤ n ∧ n ≤ 1099511627776) → (0 ≤ l ∧ l ≤ 1099511627776) → (0 ≤ (rr n l bs).1.1 ∧ (rr n l bs).1.1 ≤ 1099511627776) ∧ (0 ≤ (rr n l bs).1.2 ∧ (rr n l bs).1.2 ≤ 1099511627776)
  | [], n, l, hn, hl => ⟨hn, hl⟩
  | b :: bs, n, l, hn, hl => by
    rw [rr]
    split
    · rename_i h
      exact rr_rng bs _ _ (tk_rng hn) ⟨nx_rng (tk_rng hn) hl, h⟩
    · exact ⟨tk_rng hn, hl⟩

/-- A slice of whole numbers, whatever it is like. -/
theorem ints_facts {x : AV} {xs : List Int} (h : IntsOf .i64 x xs) : (∀ σ, lenA G 25 x σ = some (.int .i64 xs.length)) ∧ (∀ σ, rdSl σ 1 x = some (is xs, xs.length)) ∧ (∀ σ d, fz σ (d + 1) x = some x) := by
  rcases h with ⟨rfl, rfl⟩ | ⟨rfl, rfl⟩ | ⟨rfl, hne⟩
  · exact ⟨fun σ => by (first | (simp -implicitDefEqProofs only [go_sem, Nat.reduceLT, Nat.reduceAdd, Nat.reduceMul, Nat.reduceMod, Nat.reduceDiv, Nat.reduceSub, Nat.reduceBEq, Nat.reduceEqDiff, Nat.reduceBNe, Nat.reduceLeDiff, Int.reduceLT, Int.reduceLE, Int.reduceGT, Int.reduceGE, Int.reduceAdd, Int.reduceSub, Int.reduceNeg, Int.reduceMul, Int.reduceEq, Int.reduceBEq, Int.reduceBNe, Int.reduceToNat, decide_true, decide_false, reduceIte] ; done) | (simp -implicitDefEqProofs only [go_sem, Nat.reduceLT, Nat.reduceAdd, Nat.reduceMul, Nat.reduceMod, Nat.reduceDiv, Nat.reduceSub, Nat.reduceBEq, Nat.reduceEqDiff, Nat.reduceBNe, Nat.reduceLeDiff, Int.reduceLT, Int.reduceLE, Int.reduceGT, Int.reduceGE, Int.reduceAdd, Int.reduceSub, Int.reduceNeg, Int.reduceMul, Int.reduceEq, Int.reduceBEq, Int.reduceBNe, Int.reduceToNat, decide_true, decide_false, reduceIte] ; rfl)), fun σ => rfl, fun σ d => rfl⟩
  · exact ⟨fun σ => by (first | (simp -implicitDefEqProofs only [go_sem, Nat.reduceLT, Nat.reduceAdd, Nat.reduceMul, Nat.reduceMod, Nat.reduceDiv, Nat.reduceSub, Nat.reduceBEq, Nat.reduceEqDiff, Nat.reduceBNe, Nat.reduceLeDiff, Int.reduceLT, Int.reduceLE, Int.reduceGT, Int.reduceGE, Int.reduceAdd, Int.reduceSub, Int.reduceNeg, Int.reduceMul, Int.reduceEq, Int.reduceBEq, Int.reduceBNe, Int.reduceToNat, decide_true, decide_false, reduceIte] ; done) | (simp -implicitDefEqProofs only [go_sem, Nat.reduceLT, Nat.reduceAdd, Nat.reduceMul, Nat.reduceMod, Nat.reduceDiv, Nat.reduceSub, Nat.reduceBEq, Nat.reduceEqDiff, Nat.reduceBNe, Nat.reduceLeDiff, Int.reduceLT, Int.reduceLE, Int.reduceGT, Int.reduceGE, Int.reduceAdd, Int.reduceSub, Int.reduceNeg, Int.reduceMul, Int.reduceEq, Int.reduceBEq, Int.reduceBNe, Int.reduceToNat, decide_true, decide_false, reduceIte] ; rfl)), fun σ => rfl, fun σ d => rfl⟩
  · exact ⟨fun σ => by (first | (simp -implicitDefEqProofs only [go_sem, Nat.reduceLT, Nat.reduceAdd, Nat.reduceMul, Nat.reduceMod, Nat.reduceDiv, Nat.reduceSub, Nat.reduceBEq, Nat.reduceEqDiff, Nat.reduceBNe, Nat.reduceLeDiff, Int.reduceLT, Int.reduceLE, Int.reduceGT, Int.reduceGE, Int.reduceAdd, Int.reduceSub, Int.reduceNeg, Int.reduceMul, Int.reduceEq, Int.reduceBEq, Int.reduceBNe, Int.reduceToNat, decide_true, decide_false, reduceIte] ; done) | (simp -implicitDefEqProofs only [go_sem, Nat.reduceLT, Nat.reduceAdd, Nat.reduceMul, Nat.reduceMod, Nat.reduceDiv, Nat.reduceSub, Nat.reduceBEq, Nat.reduceEqDiff, Nat.reduceBNe, Nat.reduceLeDiff, Int.reduceLT, Int.reduceLE, Int.reduceGT, Int.reduceGE, Int.reduceAdd, Int.reduceSub, Int.reduceNeg, Int.reduceMul, Int.reduceEq, Int.reduceBEq, Int.reduceBNe, Int.reduceToNat, decide_true, decide_false, reduceIte] ; rfl)), fun σ => by simp [rdSl, is], fun σ d => rfl⟩

theorem sv_facts (o : List Int) : (∀ σ, lenA G 27 (sv o) σ = some (.int .i64 o.length)) ∧ (∀ σ, rdSl σ 1 (sv o) = some (us o, o.length)) ∧ (∀ σ d, fz σ (d + 1) (sv o) = some (sv o)) := by
  by_cases h : o = []
  · subst h
    exact ⟨fun σ => by (simp only [sv, if_true] ; (first | (simp -implicitDefEqProofs only [go_sem, Nat.reduceLT, Nat.reduceAdd, Nat.reduceMul, Nat.reduceMod, Nat.reduceDiv, Nat.reduceSub, Nat.reduceBEq, Nat.reduceEqDiff, Nat.reduceBNe, Nat.reduceLeDiff, Int.reduceLT, Int.reduceLE, Int.reduceGT, Int.reduceGE, Int.reduceAdd, Int.reduceSub, Int.reduceNeg, Int.reduceMul, Int.reduceEq, Int.reduceBEq, Int.reduceBNe, Int.reduceToNat, decide_true, decide_false, reduceIte] ; done) | (simp -implicitDefEqProofs only [go_sem, Nat.reduceLT, Nat.reduceAdd, Nat.reduceMul, Nat.reduceMod, Nat.reduceDiv, Nat.reduceSub, Nat.reduceBEq, Nat.reduceEqDiff, Nat.reduceBNe, Nat.reduceLeDiff, Int.reduceLT, Int.reduceLE, Int.reduceGT, Int.reduceGE, Int.reduceAdd, Int.reduceSub, Int.reduceNeg, Int.reduceMul, Int.reduceEq, Int.reduceBEq, Int.reduceBNe, Int.reduceToNat, decide_true, decide_false, reduceIte] ; rfl))), fun σ => rfl, fun σ d => rfl⟩
  · have : sv o = .fs (us o) o.length := by unfold sv; rw [if_neg h]
    rw [this]
    exact ⟨fun σ => by (first | (simp -implicitDefEqProofs only [go_sem, Nat.reduceLT, Nat.reduceAdd, Nat.reduceMul, Nat.reduceMod, Nat.reduceDiv, Nat.reduceSub, Nat.reduceBEq, Nat.reduceEqDiff, Nat.reduceBNe, Nat.reduceLeDiff, Int.reduceLT, Int.reduceLE, Int.reduceGT, Int.reduceGE, Int.reduceAdd, Int.reduceSub, Int.reduceNeg, Int.reduceMul, Int.reduceEq, Int.reduceBEq, Int.reduceBNe, Int.reduceToNat, decide_true, decide_false, reduceIte] ; done) | (simp -implicitDefEqProofs only [go_sem, Nat.reduceLT, Nat.reduceAdd, Nat.reduceMul, Nat.reduceMod, Nat.reduceDiv, Nat.reduceSub, Nat.reduceBEq, Nat.reduceEqDiff, Nat.reduceBNe, Nat.reduceLeDiff, Int.reduceLT, Int.reduceLE, Int.reduceGT, Int.reduceGE, Int.reduceAdd, Int.reduceSub, Int.reduceNeg, Int.reduceMul, Int.reduceEq, Int.reduceBEq, Int.reduceBNe, Int.reduceToNat, decide_true, decide_false, reduceIte] ; rfl)), fun σ => by simp [rdSl, us], fun σ d => rfl⟩

theorem sv_index (o : List Int) (i : Nat) (hi : i < o.length) (r : TyRow) (hr : ∃ e eb, r.knd = .slice e 1 eb) (σ : Heap) : indexAddrA r σ (sv o) i = some (.fptr (us o) (i * 1)) := by
  have h : o ≠ [] := fun h => by subst h; simp at hi
  obtain ⟨e, eb, hr⟩ := hr
  have : sv o = .fs (us o) o.length := by unfold sv; rw [if_neg h]
  rw [this]
  have h0 : (0 : Int) ≤ i := by omega
  have h1 : (i : Int) < (o.length : Int) := by omega
  simp [indexAddrA, hr, h0, hi]

/-- A slice that is full is appended to. -/
theorem app_full {σ : Heap} {id g len n : Nat} {row news : List AV} {x : AV} (hs : σ[id]? = some (.cells row g)) (hl : row.length = len) (hx : rdSl σ 1 x = some (news, n)) (hn : news.length = n) (h1 : news.all AV.one = true) (hb : len + n ≤ 1000000) :
    ∃ g', appendA 1 8 σ (.sl id g 0 len 1) x = some (.sl id g' 0 (len + n) 1, σ.set id (.cells (row ++ news) g')) := by
  subst hl
  unfold appendA
  simp only [hx]
  by_cases h0 : n = 0
  · subst h0
    have : news = [] := List.eq_nil_of_length_eq_zero hn
    subst this
    have hset : σ.set id (.cells row g) = σ := by
      obtain ⟨hlt, he⟩ := List.getElem?_eq_some_iff.1 hs
      rw [← he, List.set_getElem_self]
    refine ⟨g, ?_⟩
    simp [lenOfA, slLive, live, hs, hset]
  · refine ⟨g + 1, ?_⟩
    simp only [h0, if_false, hs, h1]
    have e1 : ¬ (0 + (row.length + n) * 1 ≤ row.length) := by omega
    have e2 : (row.length + n) * 8 ≤ 140737488355328 := by omega
    have e3 : row.length + n ≤ 4611686018427387904 := by omega
    simp [e2, e3]
    omega

theorem app_eq {n : Nat} {news : List AV} {x : AV} (hx : ∀ σ, rdSl σ 1 x = some (news, n)) (hn : news.length = n) (h1 : news.all AV.one = true) (σ : Heap) (id g len : Nat) (row : List AV) (hs : σ[id]? = some (.cells row g)) (hl : row.length = len) (hb : len + n ≤ 1000000) :
    appendA 1 8 σ (.sl id g 0 len 1) x = some (.sl id (if n = 0 then g else g + 1) 0 (len + n) 1, σ.set id (.cells (row ++ news) (if n = 0 then g else g + 1))) := by
  subst hl
  unfold appendA
  simp only [hx]
  by_cases h0 : n = 0
  · subst h0
    have : news = [] := List.eq_nil_of_length_eq_zero hn
    subst this
    have hset : σ.set id (.cells row g) = σ := by
      obtain ⟨hlt, he⟩ := List.getElem?_eq_some_iff.1 hs
      rw [← he, List.set_getElem_self]
    simp [lenOfA, slLive, live, hs, hset]
  · simp only [h0, if_false, hs, h1]
    have e1 : ¬ (0 + (row.length + n) * 1 ≤ row.length) := by omega
    have e2 : (row.length + n) * 8 ≤ 140737488355328 := by omega
    have e3 : row.length + n ≤ 4611686018427387904 := by omega
    simp [e2, e3]
    omega

theorem is_app (xs ys : List Int) : is xs ++ is ys = is (xs ++ ys) := by simp [is]
theorem us_app (xs ys : List Int) : us xs ++ us ys = us (xs ++ ys) := by simp [us]
theorem is_takeall (xs : List Int) : (is xs).take xs.length = is xs := List.take_of_length_le (by simp [is])
theorem is_fz (σ : Heap) (d : Nat) (xs : List Int) : mapO (fz σ (d + 1)) (is xs) = some (is xs) := mapO_id fun x hx => by
  obtain ⟨a, _, rfl⟩ := List.mem_map.1 hx
  rfl
theorem sl_fz (σ : Heap) (d id g : Nat) (xs : List Int) (h : σ[id]? = some (.cells (is xs) g)) : fz σ (d + 2) (.sl id g 0 xs.length 1) = some (.fs (is xs) xs.length) := by
  rw [fz_sl]
  simp only [h, if_true, List.drop_zero, Nat.mul_one, is_takeall, is_fz, Option.map_some]

theorem is_all (xs : List Int) : (is xs).all AV.one = true := by simp [is, AV.one]

theorem c8x {x : AV} {xs : List Int} (h : IntsOf .i64 x xs) (hb : xs.length ≤ 1000000) (hbs : ∀ b ∈ xs, -9223372036854775808 ≤ b ∧ b < 9223372036854775808) (n l : Int) (hn : 0 ≤ n ∧ n ≤ 1099511627776) (hl : 0 ≤ l ∧ l ≤ 1099511627776) :
    PureN G 8 [.agg [.int .u64 n, .int .u64 l], x] (.tup [.agg [.int .u64 (rr n l xs).1.1, .int .u64 (rr n l xs).1.2], sv (rr n l xs).2.1, .int .i64 (if (rr n l xs).2.2 then 0 else 251)]) := by
  rcases h with ⟨rfl, rfl⟩ | ⟨rfl, rfl⟩ | ⟨rfl, hne⟩
  · exact c8n n l hn hl
  · exact c8e n l hn hl
  · exact c8 xs hb hbs n l hn hl

theorem lenA_sl {σ : Heap} {id g off n sz : Nat} : lenA G 25 (.sl id g off n sz) σ = if live σ id g = true then some (.int .i64 n) else none := by unfold lenA; simp [row25, slLive, lenOfA] ; rfl
theorem lenA_sl27 {σ : Heap} {id g off n sz : Nat} : lenA G 27 (.sl id g off n sz) σ = if live σ id g = true then some (.int .i64 n) else none := by unfold lenA; simp [row27, slLive, lenOfA] ; rfl

attribute [local irreducible] Go.Tl.Fn PureN Yield RunC OpsRun DrawRun

theorem c5 {xa xb : AV} {ks bs : List Int} (ha : IntsOf .i64 xa ks) (hbb : IntsOf .i64 xb bs) (hks : ∀ b ∈ ks, -9223372036854775808 ≤ b ∧ b < 9223372036854775808) (hbs : ∀ b ∈ bs, -9223372036854775808 ≤ b ∧ b < 9223372036854775808)
    (n l : Int) (hn : 0 ≤ n ∧ n < 18446744073709551616) (hl : 0 ≤ l ∧ l < 18446744073709551616) :
    PureN G 5 [.agg [.int .u64 n, .int .u64 l], xa, xb] (.bool true) := by
  obtain ⟨a1, a2, a3⟩ := ints_facts ha
  obtain ⟨b1, b2, b3⟩ := ints_facts hbb
  refine PureN.intro pls5 _ _ Try.func5 rfl Try.ntmps5 Try.results5 (by simp) plan5 ?_
  simp -implicitDefEqProofs only [go_sem, Nat.reduceLT, Nat.reduceAdd, Nat.reduceMul, Nat.reduceMod, Nat.reduceDiv, Nat.reduceSub, Nat.reduceBEq, Nat.reduceEqDiff, Nat.reduceBNe, Nat.reduceLeDiff, Int.reduceLT, Int.reduceLE, Int.reduceGT, Int.reduceGE, Int.reduceAdd, Int.reduceSub, Int.reduceNeg, Int.reduceMul, Int.reduceEq, Int.reduceBEq, Int.reduceBNe, Int.reduceToNat, decide_true, decide_false, reduceIte]
  refine PureN.lend c7 (by simp -implicitDefEqProofs only [go_sem, Nat.reduceLT, Nat.reduceAdd, Nat.reduceMul, Nat.reduceMod, Nat.reduceDiv, Nat.reduceSub, Nat.reduceBEq, Nat.reduceEqDiff, Nat.reduceBNe, Nat.reduceLeDiff, Int.reduceLT, Int.reduceLE, Int.reduceGT, Int.reduceGE, Int.reduceAdd, Int.reduceSub, Int.reduceNeg, Int.reduceMul, Int.reduceEq, Int.reduceBEq, Int.reduceBNe, Int.reduceToNat, decide_true, decide_false, reduceIte, ↓a1, ↓b1, ↓lenA_sl, ↓lenA_sl27, live, *, and_self, and_true, true_and, and_false, false_and, if_false, beq_self_eq_true, bne_self_eq_false, List.length_nil, Option.isSome_none, Bool.false_and, Bool.false_eq_true, app_get, set_app, set_ne, set_eq, Nat.lt_add_one, Nat.mul_one, Int.toNat_natCast]) ?_
  by_cases h1 : ks.length ≤ 60
  case neg =>
    have h1' : ((ks.length : Int) > 60) = True := by simp ; omega
    simp -implicitDefEqProofs only [go_sem, Nat.reduceLT, Nat.reduceAdd, Nat.reduceMul, Nat.reduceMod, Nat.reduceDiv, Nat.reduceSub, Nat.reduceBEq, Nat.reduceEqDiff, Nat.reduceBNe, Nat.reduceLeDiff, Int.reduceLT, Int.reduceLE, Int.reduceGT, Int.reduceGE, Int.reduceAdd, Int.reduceSub, Int.reduceNeg, Int.reduceMul, Int.reduceEq, Int.reduceBEq, Int.reduceBNe, Int.reduceToNat, decide_true, decide_false, reduceIte, ↓a1, ↓b1, ↓lenA_sl, ↓lenA_sl27, live, *, and_self, and_true, true_and, and_false, false_and, if_false, beq_self_eq_true, bne_self_eq_false, List.length_nil, Option.isSome_none, Bool.false_and, Bool.false_eq_true, app_get, set_app, set_ne, set_eq, Nat.lt_add_one, Nat.mul_one, Int.toNat_natCast]
  by_cases h2 : bs.length ≤ 60
  case neg =>
    have h1' : ((ks.length : Int) > 60) = False := by simp ; omega
    have h2' : ((bs.length : Int) > 60) = True := by simp ; omega
    simp -implicitDefEqProofs only [go_sem, Nat.reduceLT, Nat.reduceAdd, Nat.reduceMul, Nat.reduceMod, Nat.reduceDiv, Nat.reduceSub, Nat.reduceBEq, Nat.reduceEqDiff, Nat.reduceBNe, Nat.reduceLeDiff, Int.reduceLT, Int.reduceLE, Int.reduceGT, Int.reduceGE, Int.reduceAdd, Int.reduceSub, Int.reduceNeg, Int.reduceMul, Int.reduceEq, Int.reduceBEq, Int.reduceBNe, Int.reduceToNat, decide_true, decide_false, reduceIte, ↓a1, ↓b1, ↓lenA_sl, ↓lenA_sl27, live, *, and_self, and_true, true_and, and_false, false_and, if_false, beq_self_eq_true, bne_self_eq_false, List.length_nil, Option.isSome_none, Bool.false_and, Bool.false_eq_true, app_get, set_app, set_ne, set_eq, Nat.lt_add_one, Nat.mul_one, Int.toNat_natCast]
  have h1' : ((ks.length : Int) > 60) = False := by simp ; omega
  have h2' : ((bs.length : Int) > 60) = False := by simp ; omega
  have p1 := app_eq a2 (is_len ks) (is_all ks) [.cells [.int .u64 n, .int .u64 l] 0, .cells [] 0] 1 0 0 [] rfl rfl (by omega)
  have p2 := app_eq b2 (is_len bs) (is_all bs) [.cells [.int .u64 n, .int .u64 l] 0, .cells ([] ++ is ks) (if ks.length = 0 then 0 else 0 + 1)] 1 (if ks.length = 0 then 0 else 0 + 1) (0 + ks.length) ([] ++ is ks) rfl (by simp [is_len]) (by omega)
  simp only [List.nil_append, Nat.zero_add, List.set_cons_succ, List.set_cons_zero] at p1 p2
  generalize (if ks.length = 0 then 0 else 1) = g1 at p1 p2
  generalize (if bs.length = 0 then g1 else g1 + 1) = g2 at p2
  rw [is_app, ← List.length_append] at p2
  simp -implicitDefEqProofs only [go_sem, Nat.reduceLT, Nat.reduceAdd, Nat.reduceMul, Nat.reduceMod, Nat.reduceDiv, Nat.reduceSub, Nat.reduceBEq, Nat.reduceEqDiff, Nat.reduceBNe, Nat.reduceLeDiff, Int.reduceLT, Int.reduceLE, Int.reduceGT, Int.reduceGE, Int.reduceAdd, Int.reduceSub, Int.reduceNeg, Int.reduceMul, Int.reduceEq, Int.reduceBEq, Int.reduceBNe, Int.reduceToNat, decide_true, decide_false, reduceIte, ↓p1, ↓p2, ↓a1, ↓b1, ↓lenA_sl, ↓lenA_sl27, live, *, and_self, and_true, true_and, and_false, false_and, if_false, beq_self_eq_true, bne_self_eq_false, List.length_nil, Option.isSome_none, Bool.false_and, Bool.false_eq_true, app_get, set_app, set_ne, set_eq, Nat.lt_add_one, Nat.mul_one, Int.toNat_natCast]
  have hl2 : (ks ++ bs).length ≤ 1000000 := by rw [List.length_append]; omega
  have hks2 : ∀ b ∈ ks ++ bs, -9223372036854775808 ≤ b ∧ b < 9223372036854775808 := fun b hb => by
    rcases List.mem_append.1 hb with hb | hb
    · exact hks b hb
    · exact hbs b hb
  have hz := sl_fz [.cells [.int .u64 n, .int .u64 l] 0, .cells (is (ks ++ bs)) g2] 6 1 g2 (ks ++ bs) rfl
  generalize hcs : ks ++ bs = cs at hl2 hks2 hz p2 ⊢
  clear p1 p2
  by_cases hg : n ≤ 1099511627776 ∧ l ≤ 1099511627776
  case neg =>
    refine PureN.lend (c8b (.fs (is cs) cs.length) n l hn hl hg) (by simp -implicitDefEqProofs only [go_sem, Nat.reduceLT, Nat.reduceAdd, Nat.reduceMul, Nat.reduceMod, Nat.reduceDiv, Nat.reduceSub, Nat.reduceBEq, Nat.reduceEqDiff, Nat.reduceBNe, Nat.reduceLeDiff, Int.reduceLT, Int.reduceLE, Int.reduceGT, Int.reduceGE, Int.reduceAdd, Int.reduceSub, Int.reduceNeg, Int.reduceMul, Int.reduceEq, Int.reduceBEq, Int.reduceBNe, Int.reduceToNat, decide_true, decide_false, reduceIte, ↓hz, ↓a1, ↓b1, ↓lenA_sl, ↓lenA_sl27, live, *, and_self, and_true, true_and, and_false, false_and, if_false, beq_self_eq_true, bne_self_eq_false, List.length_nil, Option.isSome_none, Bool.false_and, Bool.false_eq_true, app_get, set_app, set_ne, set_eq, Nat.lt_add_one, Nat.mul_one, Int.toNat_natCast]) ?_
    simp -implicitDefEqProofs only [go_sem, Nat.reduceLT, Nat.reduceAdd, Nat.reduceMul, Nat.reduceMod, Nat.reduceDiv, Nat.reduceSub, Nat.reduceBEq, Nat.reduceEqDiff, Nat.reduceBNe, Nat.reduceLeDiff, Int.reduceLT, Int.reduceLE, Int.reduceGT, Int.reduceGE, Int.reduceAdd, Int.reduceSub, Int.reduceNeg, Int.reduceMul, Int.reduceEq, Int.reduceBEq, Int.reduceBNe, Int.reduceToNat, decide_true, decide_false, reduceIte, ↓hz, ↓a1, ↓b1, ↓lenA_sl, ↓lenA_sl27, live, *, and_self, and_true, true_and, and_false, false_and, if_false, beq_self_eq_true, bne_self_eq_false, List.length_nil, Option.isSome_none, Bool.false_and, Bool.false_eq_true, app_get, set_app, set_ne, set_eq, Nat.lt_add_one, Nat.mul_one, Int.toNat_natCast]
    refine PureN.lend (c8b xa n l hn hl hg) (by simp -implicitDefEqProofs only [go_sem, Nat.reduceLT, Nat.reduceAdd, Nat.reduceMul, Nat.reduceMod, Nat.reduceDiv, Nat.reduceSub, Nat.reduceBEq, Nat.reduceEqDiff, Nat.reduceBNe, Nat.reduceLeDiff, Int.reduceLT, Int.reduceLE, Int.reduceGT, Int.reduceGE, Int.reduceAdd, Int.reduceSub, Int.reduceNeg, Int.reduceMul, Int.reduceEq, Int.reduceBEq, Int.reduceBNe, Int.reduceToNat, decide_true, decide_false, reduceIte, ↓hz, ↓a1, ↓b1, ↓lenA_sl, ↓lenA_sl27, live, *, and_self, and_true, true_and, and_false, false_and, if_false, beq_self_eq_true, bne_self_eq_false, List.length_nil, Option.isSome_none, Bool.false_and, Bool.false_eq_true, app_get, set_app, set_ne, set_eq, Nat.lt_add_one, Nat.mul_one, Int.toNat_natCast]) ?_
    simp -implicitDefEqProofs only [go_sem, Nat.reduceLT, Nat.reduceAdd, Nat.reduceMul, Nat.reduceMod, Nat.reduceDiv, Nat.reduceSub, Nat.reduceBEq, Nat.reduceEqDiff, Nat.reduceBNe, Nat.reduceLeDiff, Int.reduceLT, Int.reduceLE, Int.reduceGT, Int.reduceGE, Int.reduceAdd, Int.reduceSub, Int.reduceNeg, Int.reduceMul, Int.reduceEq, Int.reduceBEq, Int.reduceBNe, Int.reduceToNat, decide_true, decide_false, reduceIte, ↓hz, ↓a1, ↓b1, ↓lenA_sl, ↓lenA_sl27, live, *, and_self, and_true, true_and, and_false, false_and, if_false, beq_self_eq_true, bne_self_eq_false, List.length_nil, Option.isSome_none, Bool.false_and, Bool.false_eq_true, app_get, set_app, set_ne, set_eq, Nat.lt_add_one, Nat.mul_one, Int.toNat_natCast]
  refine PureN.lend (c8 cs hl2 hks2 n l ⟨hn.1, hg.1⟩ ⟨hl.1, hg.2⟩) (by simp -implicitDefEqProofs only [go_sem, Nat.reduceLT, Nat.reduceAdd, Nat.reduceMul, Nat.reduceMod, Nat.reduceDiv, Nat.reduceSub, Nat.reduceBEq, Nat.reduceEqDiff, Nat.reduceBNe, Nat.reduceLeDiff, Int.reduceLT, Int.reduceLE, Int.reduceGT, Int.reduceGE, Int.reduceAdd, Int.reduceSub, Int.reduceNeg, Int.reduceMul, Int.reduceEq, Int.reduceBEq, Int.reduceBNe, Int.reduceToNat, decide_true, decide_false, reduceIte, ↓hz, ↓a1, ↓b1, ↓lenA_sl, ↓lenA_sl27, live, *, and_self, and_true, true_and, and_false, false_and, if_false, beq_self_eq_true, bne_self_eq_false, List.length_nil, Option.isSome_none, Bool.false_and, Bool.false_eq_true, app_get, set_app, set_ne, set_eq, Nat.lt_add_one, Nat.mul_one, Int.toNat_natCast]) ?_
  have hrng := rr_rng ks n l ⟨hn.1, hg.1⟩ ⟨hl.1, hg.2⟩
  have hap := rr_app ks bs n l
  rw [hcs] at hap
  have c8a := c8x ha (by omega) hks n l ⟨hn.1, hg.1⟩ ⟨hl.1, hg.2⟩
  have hln := rr_len ks n l
  generalize hr1 : rr n l ks = r1 at hrng hap c8a hln
  obtain ⟨⟨n1, l1⟩, o1, k1⟩ := r1
  cases k1
  · simp only [Bool.false_eq_true, if_false] at hap c8a
    obtain ⟨s1, s2, s3⟩ := sv_facts o1
    rw [hap]
    simp -implicitDefEqProofs only [go_sem, Nat.reduceLT, Nat.reduceAdd, Nat.reduceMul, Nat.reduceMod, Nat.reduceDiv, Nat.reduceSub, Nat.reduceBEq, Nat.reduceEqDiff, Nat.reduceBNe, Nat.reduceLeDiff, Int.reduceLT, Int.reduceLE, Int.reduceGT, Int.reduceGE, Int.reduceAdd, Int.reduceSub, Int.reduceNeg, Int.reduceMul, Int.reduceEq, Int.reduceBEq, Int.reduceBNe, Int.reduceToNat, decide_true, decide_false, reduceIte, ↓s1, ↓a1, ↓b1, ↓lenA_sl, ↓lenA_sl27, live, *, and_self, and_true, true_and, and_false, false_and, if_false, beq_self_eq_true, bne_self_eq_false, List.length_nil, Option.isSome_none, Bool.false_and, Bool.false_eq_true, app_get, set_app, set_ne, set_eq, Nat.lt_add_one, Nat.mul_one, Int.toNat_natCast]
    refine PureN.lend c8a (by simp -implicitDefEqProofs only [go_sem, Nat.reduceLT, Nat.reduceAdd, Nat.reduceMul, Nat.reduceMod, Nat.reduceDiv, Nat.reduceSub, Nat.reduceBEq, Nat.reduceEqDiff, Nat.reduceBNe, Nat.reduceLeDiff, Int.reduceLT, Int.reduceLE, Int.reduceGT, Int.reduceGE, Int.reduceAdd, Int.reduceSub, Int.reduceNeg, Int.reduceMul, Int.reduceEq, Int.reduceBEq, Int.reduceBNe, Int.reduceToNat, decide_true, decide_false, reduceIte, ↓s1, ↓a1, ↓b1, ↓lenA_sl, ↓lenA_sl27, live, *, and_self, and_true, true_and, and_false, false_and, if_false, beq_self_eq_true, bne_self_eq_false, List.length_nil, Option.isSome_none, Bool.false_and, Bool.false_eq_true, app_get, set_app, set_ne, set_eq, Nat.lt_add_one, Nat.mul_one, Int.toNat_natCast]) ?_
    simp -implicitDefEqProofs only [go_sem, Nat.reduceLT, Nat.reduceAdd, Nat.reduceMul, Nat.reduceMod, Nat.reduceDiv, Nat.reduceSub, Nat.reduceBEq, Nat.reduceEqDiff, Nat.reduceBNe, Nat.reduceLeDiff, Int.reduceLT, Int.reduceLE, Int.reduceGT, Int.reduceGE, Int.reduceAdd, Int.reduceSub, Int.reduceNeg, Int.reduceMul, Int.reduceEq, Int.reduceBEq, Int.reduceBNe, Int.reduceToNat, decide_true, decide_false, reduceIte, ↓s1, ↓a1, ↓b1, ↓lenA_sl, ↓lenA_sl27, live, *, and_self, and_true, true_and, and_false, false_and, if_false, beq_self_eq_true, bne_self_eq_false, List.length_nil, Option.isSome_none, Bool.false_and, Bool.false_eq_true, app_get, set_app, set_ne, set_eq, Nat.lt_add_one, Nat.mul_one, Int.toNat_natCast]
  · simp only [if_true] at hap c8a
    have c8c := c8x hbb (by omega) hbs n1 l1 hrng.1 hrng.2
    have hln2 := rr_len bs n1 l1
    simp only at hln
    generalize hr2 : rr n1 l1 bs = r2 at hap c8c hln2
    obtain ⟨⟨n2, l2⟩, o2, k2⟩ := r2
    simp only at hap hln2
    obtain ⟨s1, s2, s3⟩ := sv_facts o1
    obtain ⟨t1, t2, t3⟩ := sv_facts o2
    obtain ⟨u1, u2, u3⟩ := sv_facts (o1 ++ o2)
    rw [hap]
    simp -implicitDefEqProofs only [go_sem, Nat.reduceLT, Nat.reduceAdd, Nat.reduceMul, Nat.reduceMod, Nat.reduceDiv, Nat.reduceSub, Nat.reduceBEq, Nat.reduceEqDiff, Nat.reduceBNe, Nat.reduceLeDiff, Int.reduceLT, Int.reduceLE, Int.reduceGT, Int.reduceGE, Int.reduceAdd, Int.reduceSub, Int.reduceNeg, Int.reduceMul, Int.reduceEq, Int.reduceBEq, Int.reduceBNe, Int.reduceToNat, decide_true, decide_false, reduceIte, ↓s1, ↓t1, ↓u1, ↓a1, ↓b1, ↓lenA_sl, ↓lenA_sl27, live, *, and_self, and_true, true_and, and_false, false_and, if_false, beq_self_eq_true, bne_self_eq_false, List.length_nil, Option.isSome_none, Bool.false_and, Bool.false_eq_true, app_get, set_app, set_ne, set_eq, Nat.lt_add_one, Nat.mul_one, Int.toNat_natCast]
    refine PureN.lend c8a (by simp -implicitDefEqProofs only [go_sem, Nat.reduceLT, Nat.reduceAdd, Nat.reduceMul, Nat.reduceMod, Nat.reduceDiv, Nat.reduceSub, Nat.reduceBEq, Nat.reduceEqDiff, Nat.reduceBNe, Nat.reduceLeDiff, Int.reduceLT, Int.reduceLE, Int.reduceGT, Int.reduceGE, Int.reduceAdd, Int.reduceSub, Int.reduceNeg, Int.reduceMul, Int.reduceEq, Int.reduceBEq, Int.reduceBNe, Int.reduceToNat, decide_true, decide_false, reduceIte, ↓s1, ↓t1, ↓u1, ↓a1, ↓b1, ↓lenA_sl, ↓lenA_sl27, live, *, and_self, and_true, true_and, and_false, false_and, if_false, beq_self_eq_true, bne_self_eq_false, List.length_nil, Option.isSome_none, Bool.false_and, Bool.false_eq_true, app_get, set_app, set_ne, set_eq, Nat.lt_add_one, Nat.mul_one, Int.toNat_natCast]) ?_
    simp -implicitDefEqProofs only [go_sem, Nat.reduceLT, Nat.reduceAdd, Nat.reduceMul, Nat.reduceMod, Nat.reduceDiv, Nat.reduceSub, Nat.reduceBEq, Nat.reduceEqDiff, Nat.reduceBNe, Nat.reduceLeDiff, Int.reduceLT, Int.reduceLE, Int.reduceGT, Int.reduceGE, Int.reduceAdd, Int.reduceSub, Int.reduceNeg, Int.reduceMul, Int.reduceEq, Int.reduceBEq, Int.reduceBNe, Int.reduceToNat, decide_true, decide_false, reduceIte, ↓s1, ↓t1, ↓u1, ↓a1, ↓b1, ↓lenA_sl, ↓lenA_sl27, live, *, and_self, and_true, true_and, and_false, false_and, if_false, beq_self_eq_true, bne_self_eq_false, List.length_nil, Option.isSome_none, Bool.false_and, Bool.false_eq_true, app_get, set_app, set_ne, set_eq, Nat.lt_add_one, Nat.mul_one, Int.toNat_natCast]
    refine PureN.lend c8c (by simp -implicitDefEqProofs only [go_sem, Nat.reduceLT, Nat.reduceAdd, Nat.reduceMul, Nat.reduceMod, Nat.reduceDiv, Nat.reduceSub, Nat.reduceBEq, Nat.reduceEqDiff, Nat.reduceBNe, Nat.reduceLeDiff, Int.reduceLT, Int.reduceLE, Int.reduceGT, Int.reduceGE, Int.reduceAdd, Int.reduceSub, Int.reduceNeg, Int.reduceMul, Int.reduceEq, Int.reduceBEq, Int.reduceBNe, Int.reduceToNat, decide_true, decide_false, reduceIte, ↓s1, ↓t1, ↓u1, ↓a1, ↓b1, ↓lenA_sl, ↓lenA_sl27, live, *, and_self, and_true, true_and, and_false, false_and, if_false, beq_self_eq_true, bne_self_eq_false, List.length_nil, Option.isSome_none, Bool.false_and, Bool.false_eq_true, app_get, set_app, set_ne, set_eq, Nat.lt_add_one, Nat.mul_one, Int.toNat_natCast]) ?_
    have hw0 : IntKind.i64.wrap ((o1.length : Int) + o2.length) = ((o1 ++ o2).length : Int) := by rw [IntKind.wrap_i64, List.length_append]; omega
    have hH : ∀ (row : List AV) (g : Nat), True := fun _ _ => trivial
    have p3 := app_eq s2 (us_len o1) (us_one_all o1) [.cells [.int .u64 n, .int .u64 l] 0, .cells (is cs) g2, .cells [.int .u64 n2, .int .u64 l2] 0, .cells [.int .u64 n1, .int .u64 l1] 0, .cells [.int .u64 n2, .int .u64 l2] 0, .cells [] 0] 5 0 0 [] rfl rfl (by omega)
    have p4 := app_eq t2 (us_len o2) (us_one_all o2) [.cells [.int .u64 n, .int .u64 l] 0, .cells (is cs) g2, .cells [.int .u64 n2, .int .u64 l2] 0, .cells [.int .u64 n1, .int .u64 l1] 0, .cells [.int .u64 n2, .int .u64 l2] 0, .cells ([] ++ us o1) (if o1.length = 0 then 0 else 0 + 1)] 5 (if o1.length = 0 then 0 else 0 + 1) (0 + o1.length) ([] ++ us o1) rfl (by simp [us_len]) (by omega)
    simp only [List.nil_append, Nat.zero_add, List.set_cons_succ, List.set_cons_zero] at p3 p4
    generalize (if o1.length = 0 then 0 else 1) = g3 at p3 p4
    generalize (if o2.length = 0 then g3 else g3 + 1) = g4 at p4
    rw [us_app, ← List.length_append] at p4
    simp -implicitDefEqProofs only [go_sem, Nat.reduceLT, Nat.reduceAdd, Nat.reduceMul, Nat.reduceMod, Nat.reduceDiv, Nat.reduceSub, Nat.reduceBEq, Nat.reduceEqDiff, Nat.reduceBNe, Nat.reduceLeDiff, Int.reduceLT, Int.reduceLE, Int.reduceGT, Int.reduceGE, Int.reduceAdd, Int.reduceSub, Int.reduceNeg, Int.reduceMul, Int.reduceEq, Int.reduceBEq, Int.reduceBNe, Int.reduceToNat, decide_true, decide_false, reduceIte, ↓s1, ↓t1, ↓u1, ↓p3, ↓p4, ↓a1, ↓b1, ↓lenA_sl, ↓lenA_sl27, live, *, and_self, and_true, true_and, and_false, false_and, if_false, beq_self_eq_true, bne_self_eq_false, List.length_nil, Option.isSome_none, Bool.false_and, Bool.false_eq_true, app_get, set_app, set_ne, set_eq, Nat.lt_add_one, Nat.mul_one, Int.toNat_natCast]
    have hno : (o1 ++ o2).length ≤ 1000000 := by rw [List.length_append]; omega
    have hix := sv_index (o1 ++ o2)
    generalize o1 ++ o2 = os at hno hix u1 u2 u3 ⊢
    clear p3 p4 hap hw0
    refine loop_ind (fun m t σ => ∃ i : Nat, i ≤ os.length ∧ m = os.length - i ∧ σ[5]? = some (.cells (us os) g4) ∧ lk t 8 = sv os ∧ lk t 87 = .sl 5 g4 0 os.length 1 ∧ lk t 88 = .int .i64 os.length ∧ lk t 89 = .int .i64 i)
      ⟨0, Nat.zero_le _, rfl, rfl, by simp -implicitDefEqProofs only [go_sem, Nat.reduceLT, Nat.reduceAdd, Nat.reduceMul, Nat.reduceMod, Nat.reduceDiv, Nat.reduceSub, Nat.reduceBEq, Nat.reduceEqDiff, Nat.reduceBNe, Nat.reduceLeDiff, Int.reduceLT, Int.reduceLE, Int.reduceGT, Int.reduceGE, Int.reduceAdd, Int.reduceSub, Int.reduceNeg, Int.reduceMul, Int.reduceEq, Int.reduceBEq, Int.reduceBNe, Int.reduceToNat, decide_true, decide_false, reduceIte, ↓u1, ↓a1, ↓b1, ↓lenA_sl, ↓lenA_sl27, live, *, and_self, and_true, true_and, and_false, false_and, if_false, beq_self_eq_true, bne_self_eq_false, List.length_nil, Option.isSome_none, Bool.false_and, Bool.false_eq_true, app_get, set_app, set_ne, set_eq, Nat.lt_add_one, Nat.mul_one, Int.toNat_natCast], by simp -implicitDefEqProofs only [go_sem, Nat.reduceLT, Nat.reduceAdd, Nat.reduceMul, Nat.reduceMod, Nat.reduceDiv, Nat.reduceSub, Nat.reduceBEq, Nat.reduceEqDiff, Nat.reduceBNe, Nat.reduceLeDiff, Int.reduceLT, Int.reduceLE, Int.reduceGT, Int.reduceGE, Int.reduceAdd, Int.reduceSub, Int.reduceNeg, Int.reduceMul, Int.reduceEq, Int.reduceBEq, Int.reduceBNe, Int.reduceToNat, decide_true, decide_false, reduceIte, ↓u1, ↓a1, ↓b1, ↓lenA_sl, ↓lenA_sl27, live, *, and_self, and_true, true_and, and_false, false_and, if_false, beq_self_eq_true, bne_self_eq_false, List.length_nil, Option.isSome_none, Bool.false_and, Bool.false_eq_true, app_get, set_app, set_ne, set_eq, Nat.lt_add_one, Nat.mul_one, Int.toNat_natCast], by simp -implicitDefEqProofs only [go_sem, Nat.reduceLT, Nat.reduceAdd, Nat.reduceMul, Nat.reduceMod, Nat.reduceDiv, Nat.reduceSub, Nat.reduceBEq, Nat.reduceEqDiff, Nat.reduceBNe, Nat.reduceLeDiff, Int.reduceLT, Int.reduceLE, Int.reduceGT, Int.reduceGE, Int.reduceAdd, Int.reduceSub, Int.reduceNeg, Int.reduceMul, Int.reduceEq, Int.reduceBEq, Int.reduceBNe, Int.reduceToNat, decide_true, decide_false, reduceIte, ↓u1, ↓a1, ↓b1, ↓lenA_sl, ↓lenA_sl27, live, *, and_self, and_true, true_and, and_false, false_and, if_false, beq_self_eq_true, bne_self_eq_false, List.length_nil, Option.isSome_none, Bool.false_and, Bool.false_eq_true, app_get, set_app, set_ne, set_eq, Nat.lt_add_one, Nat.mul_one, Int.toNat_natCast], by (simp -implicitDefEqProofs only [go_sem, Nat.reduceLT, Nat.reduceAdd, Nat.reduceMul, Nat.reduceMod, Nat.reduceDiv, Nat.reduceSub, Nat.reduceBEq, Nat.reduceEqDiff, Nat.reduceBNe, Nat.reduceLeDiff, Int.reduceLT, Int.reduceLE, Int.reduceGT, Int.reduceGE, Int.reduceAdd, Int.reduceSub, Int.reduceNeg, Int.reduceMul, Int.reduceEq, Int.reduceBEq, Int.reduceBNe, Int.reduceToNat, decide_true, decide_false, reduceIte, ↓u1, ↓a1, ↓b1, ↓lenA_sl, ↓lenA_sl27, live, *, and_self, and_true, true_and, and_false, false_and, if_false, beq_self_eq_true, bne_self_eq_false, List.length_nil, Option.isSome_none, Bool.false_and, Bool.false_eq_true, app_get, set_app, set_ne, set_eq, Nat.lt_add_one, Nat.mul_one, Int.toNat_natCast] ; first | done | rfl)⟩ (fun m t σ hI => ?_)
    obtain ⟨i, hi, rfl, q5, r8, r87, r88, r89⟩ := hI
    simp -implicitDefEqProofs only [go_sem, Nat.reduceLT, Nat.reduceAdd, Nat.reduceMul, Nat.reduceMod, Nat.reduceDiv, Nat.reduceSub, Nat.reduceBEq, Nat.reduceEqDiff, Nat.reduceBNe, Nat.reduceLeDiff, Int.reduceLT, Int.reduceLE, Int.reduceGT, Int.reduceGE, Int.reduceAdd, Int.reduceSub, Int.reduceNeg, Int.reduceMul, Int.reduceEq, Int.reduceBEq, Int.reduceBNe, Int.reduceToNat, decide_true, decide_false, reduceIte, ↓u1, ↓a1, ↓b1, ↓lenA_sl, ↓lenA_sl27, live, *, and_self, and_true, true_and, and_false, false_and, if_false, beq_self_eq_true, bne_self_eq_false, List.length_nil, Option.isSome_none, Bool.false_and, Bool.false_eq_true, app_get, set_app, set_ne, set_eq, Nat.lt_add_one, Nat.mul_one, Int.toNat_natCast]
    refine condF_split (fun hc => ?_) (fun hc => ?_)
    · have hlt : (i : Int) < os.length := by have := hc ; simp at this ; omega
      have hlt' : i < os.length := by omega
      have hpos : (0 : Int) ≤ i := by omega
      have hx := us_get os i hlt'
      have hxi := hix i hlt' ⟨1, 24, .slice 22 1 8, [.nils]⟩ ⟨22, 8, rfl⟩
      have hw : IntKind.i64.wrap ((i : Int) + 1) = ((i + 1 : Nat) : Int) := by rw [IntKind.wrap_i64]; omega
      clear hc
      simp -implicitDefEqProofs only [go_sem, Nat.reduceLT, Nat.reduceAdd, Nat.reduceMul, Nat.reduceMod, Nat.reduceDiv, Nat.reduceSub, Nat.reduceBEq, Nat.reduceEqDiff, Nat.reduceBNe, Nat.reduceLeDiff, Int.reduceLT, Int.reduceLE, Int.reduceGT, Int.reduceGE, Int.reduceAdd, Int.reduceSub, Int.reduceNeg, Int.reduceMul, Int.reduceEq, Int.reduceBEq, Int.reduceBNe, Int.reduceToNat, decide_true, decide_false, reduceIte, ↓u1, ↓hxi, Nat.zero_add, Nat.add_zero, ↓a1, ↓b1, ↓lenA_sl, ↓lenA_sl27, live, *, and_self, and_true, true_and, and_false, false_and, if_false, beq_self_eq_true, bne_self_eq_false, List.length_nil, Option.isSome_none, Bool.false_and, Bool.false_eq_true, app_get, set_app, set_ne, set_eq, Nat.lt_add_one, Nat.mul_one, Int.toNat_natCast]
      refine loopQ_of (os.length - (i + 1)) (by omega) ⟨i + 1, by omega, rfl, by simp -implicitDefEqProofs only [go_sem, Nat.reduceLT, Nat.reduceAdd, Nat.reduceMul, Nat.reduceMod, Nat.reduceDiv, Nat.reduceSub, Nat.reduceBEq, Nat.reduceEqDiff, Nat.reduceBNe, Nat.reduceLeDiff, Int.reduceLT, Int.reduceLE, Int.reduceGT, Int.reduceGE, Int.reduceAdd, Int.reduceSub, Int.reduceNeg, Int.reduceMul, Int.reduceEq, Int.reduceBEq, Int.reduceBNe, Int.reduceToNat, decide_true, decide_false, reduceIte, ↓u1, ↓a1, ↓b1, ↓lenA_sl, ↓lenA_sl27, live, *, and_self, and_true, true_and, and_false, false_and, if_false, beq_self_eq_true, bne_self_eq_false, List.length_nil, Option.isSome_none, Bool.false_and, Bool.false_eq_true, app_get, set_app, set_ne, set_eq, Nat.lt_add_one, Nat.mul_one, Int.toNat_natCast], by simp -implicitDefEqProofs only [go_sem, Nat.reduceLT, Nat.reduceAdd, Nat.reduceMul, Nat.reduceMod, Nat.reduceDiv, Nat.reduceSub, Nat.reduceBEq, Nat.reduceEqDiff, Nat.reduceBNe, Nat.reduceLeDiff, Int.reduceLT, Int.reduceLE, Int.reduceGT, Int.reduceGE, Int.reduceAdd, Int.reduceSub, Int.reduceNeg, Int.reduceMul, Int.reduceEq, Int.reduceBEq, Int.reduceBNe, Int.reduceToNat, decide_true, decide_false, reduceIte, ↓u1, ↓a1, ↓b1, ↓lenA_sl, ↓lenA_sl27, live, *, and_self, and_true, true_and, and_false, false_and, if_false, beq_self_eq_true, bne_self_eq_false, List.length_nil, Option.isSome_none, Bool.false_and, Bool.false_eq_true, app_get, set_app, set_ne, set_eq, Nat.lt_add_one, Nat.mul_one, Int.toNat_natCast], by simp -implicitDefEqProofs only [go_sem, Nat.reduceLT, Nat.reduceAdd, Nat.reduceMul, Nat.reduceMod, Nat.reduceDiv, Nat.reduceSub, Nat.reduceBEq, Nat.reduceEqDiff, Nat.reduceBNe, Nat.reduceLeDiff, Int.reduceLT, Int.reduceLE, Int.reduceGT, Int.reduceGE, Int.reduceAdd, Int.reduceSub, Int.reduceNeg, Int.reduceMul, Int.reduceEq, Int.reduceBEq, Int.reduceBNe, Int.reduceToNat, decide_true, decide_false, reduceIte, ↓u1, ↓a1, ↓b1, ↓lenA_sl, ↓lenA_sl27, live, *, and_self, and_true, true_and, and_false, false_and, if_false, beq_self_eq_true, bne_self_eq_false, List.length_nil, Option.isSome_none, Bool.false_and, Bool.false_eq_true, app_get, set_app, set_ne, set_eq, Nat.lt_add_one, Nat.mul_one, Int.toNat_natCast], by simp -implicitDefEqProofs only [go_sem, Nat.reduceLT, Nat.reduceAdd, Nat.reduceMul, Nat.reduceMod, Nat.reduceDiv, Nat.reduceSub, Nat.reduceBEq, Nat.reduceEqDiff, Nat.reduceBNe, Nat.reduceLeDiff, Int.reduceLT, Int.reduceLE, Int.reduceGT, Int.reduceGE, Int.reduceAdd, Int.reduceSub, Int.reduceNeg, Int.reduceMul, Int.reduceEq, Int.reduceBEq, Int.reduceBNe, Int.reduceToNat, decide_true, decide_false, reduceIte, ↓u1, ↓a1, ↓b1, ↓lenA_sl, ↓lenA_sl27, live, *, and_self, and_true, true_and, and_false, false_and, if_false, beq_self_eq_true, bne_self_eq_false, List.length_nil, Option.isSome_none, Bool.false_and, Bool.false_eq_true, app_get, set_app, set_ne, set_eq, Nat.lt_add_one, Nat.mul_one, Int.toNat_natCast], by simp -implicitDefEqProofs only [go_sem, Nat.reduceLT, Nat.reduceAdd, Nat.reduceMul, Nat.reduceMod, Nat.reduceDiv, Nat.reduceSub, Nat.reduceBEq, Nat.reduceEqDiff, Nat.reduceBNe, Nat.reduceLeDiff, Int.reduceLT, Int.reduceLE, Int.reduceGT, Int.reduceGE, Int.reduceAdd, Int.reduceSub, Int.reduceNeg, Int.reduceMul, Int.reduceEq, Int.reduceBEq, Int.reduceBNe, Int.reduceToNat, decide_true, decide_false, reduceIte, ↓u1, ↓a1, ↓b1, ↓lenA_sl, ↓lenA_sl27, live, *, and_self, and_true, true_and, and_false, false_and, if_false, beq_self_eq_true, bne_self_eq_false, List.length_nil, Option.isSome_none, Bool.false_and, Bool.false_eq_true, app_get, set_app, set_ne, set_eq, Nat.lt_add_one, Nat.mul_one, Int.toNat_natCast]⟩
    · simp -implicitDefEqProofs only [go_sem, Nat.reduceLT, Nat.reduceAdd, Nat.reduceMul, Nat.reduceMod, Nat.reduceDiv, Nat.reduceSub, Nat.reduceBEq, Nat.reduceEqDiff, Nat.reduceBNe, Nat.reduceLeDiff, Int.reduceLT, Int.reduceLE, Int.reduceGT, Int.reduceGE, Int.reduceAdd, Int.reduceSub, Int.reduceNeg, Int.reduceMul, Int.reduceEq, Int.reduceBEq, Int.reduceBNe, Int.reduceToNat, decide_true, decide_false, reduceIte, ↓u1, ↓a1, ↓b1, ↓lenA_sl, ↓lenA_sl27, live, *, and_self, and_true, true_and, and_false, false_and, if_false, beq_self_eq_true, bne_self_eq_false, List.length_nil, Option.isSome_none, Bool.false_and, Bool.false_eq_true, app_get, set_app, set_ne, set_eq, Nat.lt_add_one, Nat.mul_one, Int.toNat_natCast]


end Go.Proofs.Ytjcenhgfonhidaa

