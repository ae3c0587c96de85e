/- Regions, code, loops, functions: the rules. -/
import Derived.Test.YtjcenhgfonhidaaTlI
namespace Go.Tl
open Go.RowKit

def putA (env : List AV) (dst : Option Nat) (x : AV) : List AV := match dst with
  | some d => env.set d x
  | none => env

theorem putA_rep {M : Mem} {L : List Ent} {env : List AV} {a : Act} {dst : Option Nat} {x : AV} {v : Value} (he : RepL M L env a.tmps) (hx : Rep M L x v) : RepL M L (putA env dst x) (a.put dst v).tmps := by
  cases dst with
  | none => exact he
  | some d =>
    refine ⟨by simp [putA, Act.put, he.1], fun i y u hy hu => ?_⟩
    simp only [putA, Act.put] at hy hu
    by_cases hd : d = i
    · subst hd
      have hlt : d < env.length := by have := (List.getElem?_eq_some_iff.1 hy).1; simpa using this
      rw [List.getElem?_set_self hlt] at hy
      rw [Array.getElem?_setIfInBounds_self_of_lt (by rw [← he.1]; exact hlt)] at hu
      cases hy; cases hu; exact hx
    · rw [List.getElem?_set_ne hd] at hy
      rw [Array.getElem?_setIfInBounds_ne hd] at hu
      exact he.2 i y u hy hu

def yieldA (ops : Array Oper) (env : List AV) (j : Nat) : Option AV := ((ops[j]?).bind (·.dst)).bind (env[·]?)

/-- Two ways. -/
def Br (b : Bool) (X Y : Prop) : Prop := if b then X else Y

@[simp] theorem Br_true {X Y : Prop} : Br true X Y = X := by simp [Br]
@[simp] theorem Br_false {X Y : Prop} : Br false X Y = Y := by simp [Br]
theorem Br.split {b : Bool} {X Y : Prop} (h1 : b = true → X) (h2 : b = false → Y) : Br b X Y := by
  cases b
  · simpa using h2 rfl
  · simpa using h1 rfl

/-- Is the operation wanted? -/
def WantA (ops : Array Oper) (o : Oper) (env : List AV) (X Y : Prop) : Prop :=
  match o.guard with
  | none => X
  | some (j, want) => match yieldA ops env j with
    | some (.bool b) => Br (b == want) X Y
    | some (.tup _) => Y
    | _ => False

def OpsRun (G : Prg) (ops : Array Oper) : List Oper → List AV → Heap → (List AV → Heap → Prop) → Prop
  | [], env, σ, K => K env σ
  | o :: rest, env, σ, K => WantA ops o env (OpRun G o env σ fun x σ' => OpsRun G ops rest (putA env o.dst x) σ' K) (OpsRun G ops rest (putA env o.dst (.tup [])) σ K)

theorem want_ok {ops : Array Oper} {o : Oper} {env : List AV} {X Y : Prop} (h : WantA ops o env X Y) {M : Mem} {L : List Ent} {a : Act} (he : RepL M L env a.tmps) :
    if Region.wanted o (yielded ops a.tmps) then X else Y := by
  unfold WantA at h
  unfold Region.wanted
  split at h
  case h_1 hg => simpa [hg] using h
  case h_2 j want hg =>
    simp only [hg]
    unfold yieldA at h
    unfold yielded
    cases hd : (ops[j]?).bind (·.dst) with
    | none => simp [hd] at h
    | some d =>
      simp only [hd, Option.bind_some] at h ⊢
      split at h
      case h_1 b hb =>
        obtain ⟨v, hv, hr⟩ := he.get hb
        cases hr
        simp only [Option.bind_some, hv]
        cases b <;> cases want <;> simpa using h
      case h_2 xs hb =>
        obtain ⟨v, hv, hr⟩ := he.get hb
        obtain ⟨vs, rfl, _⟩ := rep_tup_inv hr
        simp only [Option.bind_some, hv]
        simpa using h
      case h_3 => cases h

theorem opsRun_ok {G : Prg} {ops : Array Oper} {ro : Option Nat} {Q : Exit → Act → World → Prop} {K : List AV → Heap → Prop} : ∀ (l : List Oper) (is : List Nat), is.map (fun i => ops[i]?) = l.map some →
    ∀ (env : List AV) (σ : Heap), OpsRun G ops l env σ K → ∀ (c : Cfg) (a : Act), GOk G c.M → Sim c σ → RepL c.M c.L env a.tmps →
      (∀ c' env' σ' a', c.Le c' → Sim c' σ' → RepL c'.M c'.L env' a'.tmps → a'.defers = a.defers → K env' σ' → Q .normal a' c'.w) → wpOpsIn (Fw ro) 0 G.P ops Q is a c.w
  | [], is, hl, env, σ, h, c, a, hG, hs, he, hk => by
    obtain rfl : is = [] := by simpa using hl
    exact hk c env σ a (Cfg.Le.refl c) hs he rfl h
  | o :: l, [], hl, _, _, _, _, _, _, _, _, _ => by simp at hl
  | o :: l, i :: is, hl, env, σ, h, c, a, hG, hs, he, hk => by
    simp only [List.map_cons, List.cons.injEq] at hl
    have hput : ∀ v, (a.put o.dst v).defers = a.defers := fun v => by cases o.dst <;> rfl
    simp only [wpOpsIn, hl.1]
    have hw := want_ok h he
    split at hw
    · rename_i hwt
      rw [if_pos hwt]
      refine op_ok hw hG hs he (fun c' x v σ' h1 h2 h3 h4 => ?_)
      exact opsRun_ok l is hl.2 _ _ h4 c' _ (GOk.mono h1.mem hG) h2 (putA_rep (RepL.mono h1 he) h3) (fun c2 env2 σ2 a2 q1 q2 q3 q4 q5 => hk c2 env2 σ2 a2 (h1.trans q1) q2 q3 (by rw [q4, hput]) q5)
    · rename_i hwt
      rw [if_neg hwt]
      refine ⟨fun _ _ => trivial, ?_⟩
      exact opsRun_ok l is hl.2 _ _ hw c _ hG hs (putA_rep he (.tup rfl (fun i h => by cases h))) (fun c2 env2 σ2 a2 q1 q2 q3 q4 q5 => hk c2 env2 σ2 a2 q1 q2 q3 (by rw [q4, hput]) q5)

/-! ### Loops -/
inductive LoopW (B : List AV → Heap → (Exit → List AV → Heap → Prop) → Prop) (K : Exit → List AV → Heap → Prop) : List AV → Heap → Prop
  | step {env : List AV} {σ : Heap} (M : Exit → List AV → Heap → Prop) (h : B env σ M) (hn : ∀ e s, M .normal e s → LoopW B K e s) (hx : ∀ x e s, x ≠ .normal → M x e s → K x e s) : LoopW B K env σ

/-- A loop by a measure. -/
theorem LoopW.ind {B : List AV → Heap → (Exit → List AV → Heap → Prop) → Prop} {K : Exit → List AV → Heap → Prop} (I : Nat → List AV → Heap → Prop)
    (h : ∀ n env σ, I n env σ → B env σ fun x e s => match x with
      | .normal => ∃ m, m < n ∧ I m e s
      | x => K x e s) {n : Nat} {env : List AV} {σ : Heap} (h0 : I n env σ) : LoopW B K env σ := by
  induction n using Nat.strongRecOn generalizing env σ with
  | _ n ih =>
    refine .step _ (h n env σ h0) (fun e s ⟨m, hm, hI⟩ => ih m hm hI) (fun x e s hx hk => ?_)
    cases x <;> first | exact absurd rfl hx | exact hk

end Go.Tl
