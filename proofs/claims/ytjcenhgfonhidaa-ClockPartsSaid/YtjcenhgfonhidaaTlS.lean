/- Loops, worked by simp. -/
import Derived.Test.YtjcenhgfonhidaaTlR
namespace Go.Tl
open Go.RowKit

/-- What a round of a loop has to come to: the invariant again, at a smaller measure; or it leaves. -/
def loopQ (I : Nat → List (Nat × AV) → Heap → Prop) (nt m : Nat) (K : Exit → List AV → Heap → Prop) (x : Exit) (e : List AV) (s : Heap) : Prop := match x with
  | .normal => ∃ m' l', m' < m ∧ e = mkE nt l' ∧ I m' l' s
  | x => K x e s

section
variable {I : Nat → List (Nat × AV) → Heap → Prop} {nt m : Nat} {K : Exit → List AV → Heap → Prop} {e : List AV} {s : Heap}
theorem loopQ_exit {i : Nat} : loopQ I nt m K (.exit i) e s = K (.exit i) e s := rfl
theorem loopQ_ret : loopQ I nt m K .ret e s = K .ret e s := rfl
theorem loopQ_of {l : List (Nat × AV)} (m' : Nat) (h : m' < m) (hI : I m' l s) : loopQ I nt m K .normal (mkE nt l) s := ⟨m', l, h, rfl, hI⟩

theorem loop_ind {G : Prg} {pls : Plans} {b : Code} (I : Nat → List (Nat × AV) → Heap → Prop) {m0 : Nat} {l0 : List (Nat × AV)} {σ0 : Heap} (h0 : I m0 l0 σ0)
    (h : ∀ m l σ, I m l σ → RunC G pls b (mkE nt l) σ (loopQ I nt m K)) : LoopW (loopB G pls b) K (mkE nt l0) σ0 := by
  refine LoopW.ind (fun m e s => ∃ l, e = mkE nt l ∧ I m l s) (fun n env σ ⟨l, he, hI⟩ => ?_) ⟨l0, rfl, h0⟩
  subst he
  have hq := h n l σ hI
  have heq : loopQ I nt n K = (fun x e s => match x with
      | .normal => ∃ m, m < n ∧ ∃ l, e = mkE nt l ∧ I m l s
      | x => K x e s) := by
    funext x e s
    cases x <;> simp only [loopQ]
    apply propext
    constructor
    · rintro ⟨m', l', h1, h2, h3⟩; exact ⟨m', h1, l', h2, h3⟩
    · rintro ⟨m', h1, l', h2, h3⟩; exact ⟨m', l', h1, h2, h3⟩
  rw [heq] at hq
  exact hq
end

theorem cast0 : ((0 : Nat) : Int) = 0 := rfl
theorem cast1 : ((1 : Nat) : Int) = 1 := rfl

/-! ### Heaps that are known in part -/
section
variable {σ : Heap} {k : ABlk} {i j : Nat}
theorem app_get (h : i < σ.length) : (σ ++ [k])[i]? = σ[i]? := List.getElem?_append_left h
theorem app_last (h : σ.length = i) : (σ ++ [k])[i]? = some k := by subst h; exact List.getElem?_concat_length ..
theorem set_ne (h : (i == j) = false) : (σ.set i k)[j]? = σ[j]? := List.getElem?_set_ne (by simpa using h)
theorem set_eq (h : i < σ.length) : (σ.set i k)[i]? = some k := List.getElem?_set_self h
theorem set_app_last {k' : ABlk} (h : σ.length = i) : (σ ++ [k]).set i k' = σ ++ [k'] := by subst h; simp
theorem set_app {k' : ABlk} (h : i < σ.length) : (σ ++ [k]).set i k' = σ.set i k' ++ [k] := by rw [List.set_append_left _ _ h]
theorem app_len : (σ ++ [k]).length = σ.length + 1 := by simp
theorem set_len : (σ.set i k).length = σ.length := List.length_set ..
end

/-! ### Ranges over functions -/
theorem RunC_range {G : Prg} {pls : Plans} {f : Operand} {ps : Array Tmp} {as body : Code} {env : List AV} {σ : Heap} {K : Exit → List AV → Heap → Prop} {k : FuncId} {first cap : List AV} (hf : ev G env f = some (.fn k first cap)) (hk : G.fns k = true)
    (h : ∀ E A B, E = env → A = as → B = body → Fn G k (first ++ [.yl σ.length] ++ cap) (σ ++ [.loop .ready none E ps.toList A B]) (RangeEnd G σ.length E ps.toList A B K)) : RunC G pls (.rangeFunc f ps as body) env σ K :=
  Range.intro hf hk (h env as body rfl rfl rfl)

def roundK (G : Prg) (pls : Plans) (id : Nat) (env : List AV) (ps : List Tmp) (as body : Code) (Q : AV → Heap → Prop) (x : Exit) (e : List AV) (s : Heap) : Prop := match x with
  | .normal => (∃ pend, s[id]? = some (.loop .ready pend env ps as body) ∧ RunC G pls body e (s.set id (.loop .busy pend env ps as body)) (RoundEnd id env ps as body Q))
  | _ => False

section
variable {G : Prg} {pls : Plans} {id : Nat} {args : List AV} {σ : Heap} {Q : AV → Heap → Prop} {st : LoopState} {pend : Option Code} {env e : List AV} {ps : List Tmp} {as body : Code} {K : Exit → List AV → Heap → Prop}
theorem Yield.go (pls : Plans) {as0 : Code} {env0 : List AV} (hA : as = as0) (hE : env = env0) (hσ : σ[id]? = some (.loop st pend env ps as body)) (hl : args.length = ps.length) (hpa : codeB pls as0 = true) (hpb : codeB pls body = true)
    (h : RunC G pls as0 (putAll env0 ps args) σ (roundK G pls id env ps as body Q)) : Yield G id args σ Q := by
  subst hA; subst hE
  exact Yield.intro pls hσ hl hpa hpb h
theorem roundK_of {body0 : Code} (hB : body = body0) (hσ : σ[id]? = some (.loop .ready pend env ps as body)) (h : RunC G pls body0 e (σ.set id (.loop .busy pend env ps as body)) (RoundEnd id env ps as body Q)) : roundK G pls id env ps as body Q .normal e σ := by
  subst hB
  exact ⟨pend, hσ, h⟩
theorem RoundEnd_of (hσ : σ[id]? = some (.loop st pend env ps as body)) (h : Q (.bool true) (σ.set id (.loop .ready none env ps as body))) : RoundEnd id env ps as body Q .normal e σ := ⟨⟨st, pend, hσ⟩, h⟩
theorem RangeEnd_of {r : AV} {env0 : List AV} (hE : env = env0) (hσ : σ[id]? = some (.loop .ready none env ps as body)) (h : K .normal env0 (σ.set id .dead)) : RangeEnd G id env ps as body K r σ := by
  subst hE
  unfold RangeEnd
  rw [hσ]
  exact ⟨rfl, h⟩
theorem putAll_nil {n : Nat} {l : List (Nat × AV)} : putAll (mkE n l) [] [] = mkE n l := rfl
theorem putAll_cons {n : Nat} {l : List (Nat × AV)} {p : Nat} {ps : List Nat} {a : AV} {as : List AV} : putAll (mkE n l) (p :: ps) (a :: as) = putAll (mkE n ((p, a) :: l)) ps as := by
  simp only [putAll, List.zip_cons_cons, List.foldl_cons, mkE_put]
end

attribute [go_sem] cast0 cast1 putAll_nil putAll_cons loopQ_exit loopQ_ret app_last set_app_last app_len set_len List.set_set or_self or_false false_or or_true true_or List.range_zero List.getD_cons_zero List.getD_cons_succ

end Go.Tl
