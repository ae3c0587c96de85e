/- Regions that draw their order of evaluation: one order, with the loads that may wait held steady, stands for all. -/
import Derived.Test.YtjcenhgfonhidaaTlJ
import Derived.OrdersIn
namespace Go.Tl
open Go.RowKit

/-! ### What an operation looks at -/
theorem evs_congr {G : Prg} {env env' : List AV} : ∀ (xs : List Operand), (∀ x ∈ xs, ev G env x = ev G env' x) → evs G env xs = evs G env' xs
  | [], _ => rfl
  | x :: xs, h => by
    simp only [evs, h x (List.mem_cons_self ..), evs_congr xs fun y hy => h y (List.mem_cons_of_mem _ hy)]

theorem evParts_congr {G : Prg} {env env' : List AV} : ∀ (xs : List (Nat × Operand)), (∀ x ∈ xs.map (·.2), ev G env x = ev G env' x) → evParts G env xs = evParts G env' xs
  | [], _ => rfl
  | (i, x) :: xs, h => by
    simp only [evParts, h x (by simp), evParts_congr xs fun y hy => h y (by simp at hy ⊢; exact .inr hy)]

theorem evOpt_congr {G : Prg} {env env' : List AV} (x : Option Operand) (h : ∀ y ∈ x.toArray, ev G env y = ev G env' y) : evOpt G env x = evOpt G env' x := by
  cases x with
  | none => rfl
  | some y => simp only [evOpt, h y (by simp)]

theorem ex_congr {G : Prg} {op : Op} {env env' : List AV} {σ : Heap} (h : ∀ x ∈ op.operands, ev G env x = ev G env' x) : ex G op env σ = ex G op env' σ := by
  cases op <;> simp only [Op.operands] at h <;> simp only [ex]
  case build t ps => rw [evParts_congr ps.toList fun x hx => h x (by simpa using hx)]
  case buildSlice t n ps => rw [evParts_congr ps.toList fun x hx => h x (by simpa using hx)]
  case makeFunc fn first captured =>
    cases fn <;> try rfl
    simp only [ex]
    rw [evs_congr first.toList fun x hx => h x (by simp at hx; simp [hx]), evs_congr captured.toList fun x hx => h x (by simp at hx; simp [hx])]
  case slice t x lo hi mx =>
    rw [h x (by simp), evOpt_congr lo fun y hy => h y (by simp at hy ⊢; simp [hy]), evOpt_congr hi fun y hy => h y (by simp at hy ⊢; simp [hy]), evOpt_congr mx fun y hy => h y (by simp at hy ⊢; simp [hy])]
  all_goals (first | rfl | (simp_all; done) | skip)

theorem callA_congr {G : Prg} {cl : Call} {env env' : List AV} {σ : Heap} {K : AV → Heap → Prop} (h : ∀ x ∈ cl.operands, ev G env x = ev G env' x) : CallA G cl env σ K = CallA G cl env' σ K := by
  have ha : evs G env cl.args.toList = evs G env' cl.args.toList := evs_congr _ fun x hx => h x (by simp only [Call.operands]; exact Array.mem_append.2 (.inr (by simpa using hx)))
  unfold CallA
  rw [ha]
  cases hc : cl.callee with
  | builtin b => rfl
  | invoke r m => rfl
  | value f => simp only [h f (by simp [Call.operands, hc])]

theorem ev_off {G : Prg} {env env' : List AV} {x : Operand} (h : ∀ t, x = .tmp t → env[t]? = env'[t]?) : ev G env x = ev G env' x := by
  cases x with
  | tmp t => exact h t rfl
  | const v => rfl
  | global g => rfl
  | func f => rfl

theorem looks_op {ops : Array Oper} {o : Oper} {t : Tmp} (h : Operand.tmp t ∈ o.op.operands) : t ∈ o.looksAt ops :=
  List.mem_append_left _ (List.mem_filterMap.2 ⟨.tmp t, by simpa using h, rfl⟩)

theorem opRun_off {G : Prg} {ops : Array Oper} {o : Oper} {env env' : List AV} {σ : Heap} {K : AV → Heap → Prop} (h : ∀ t ∈ o.looksAt ops, env[t]? = env'[t]?) : OpRun G o env σ K = OpRun G o env' σ K := by
  have hx : ∀ x ∈ o.op.operands, ev G env x = ev G env' x := fun x hx => ev_off fun t ht => h t (looks_op (by rw [← ht]; exact hx))
  unfold OpRun
  split
  · rename_i cl hcl
    exact callA_congr (by rw [hcl] at hx; exact hx)
  · rw [ex_congr hx]

theorem yieldA_off {ops : Array Oper} {o : Oper} {env env' : List AV} (h : ∀ t ∈ o.looksAt ops, env[t]? = env'[t]?) {j : Nat} {w : Bool} (hg : o.guard = some (j, w)) : yieldA ops env j = yieldA ops env' j := by
  unfold yieldA
  cases hd : (ops[j]?).bind (·.dst) with
  | none => rfl
  | some d =>
    simp only [Option.bind_some]
    exact h d (List.mem_append_right _ (by simp only [hg, hd]; simp))

theorem wantA_off {ops : Array Oper} {o : Oper} {env env' : List AV} {X Y : Prop} (h : ∀ t ∈ o.looksAt ops, env[t]? = env'[t]?) : WantA ops o env X Y = WantA ops o env' X Y := by
  unfold WantA
  split
  · rfl
  · rename_i j w hg
    rw [yieldA_off h hg]

/-! ### Floats: what leaves the heap as it is -/
def fltCall (cl : Call) : Bool := match cl.callee with
  | .builtin .len | .builtin .max | .builtin .min => true
  | _ => false

def flt (o : Oper) : Bool := match o.op with
  | .move _ | .assign _ | .pick .. | .build .. | .load .. | .nilCheck _ | .binOp .. | .unOp .. | .convert .. | .makeFunc .. | .slice .. | .fieldAddr .. | .indexAddr .. | .extract .. => o.dst.isSome
  | .call cl => o.dst.isSome && fltCall cl
  | _ => false

/-- A float that does not ask the heap. -/
def still (o : Oper) : Bool := match o.op with
  | .move _ | .assign _ | .pick .. | .build .. | .binOp .. | .unOp .. | .convert .. | .makeFunc .. | .extract .. => true
  | _ => false

def valA (G : Prg) (o : Oper) (env : List AV) (σ : Heap) : Option AV := match o.op with
  | .call cl => match cl.callee with
    | .builtin b => match evs G env cl.args.toList with
      | some xs => (exB G b cl.argTypes.toList xs σ).map (·.1)
      | none => none
    | _ => none
  | op => (ex G op env σ).map (·.1)

def floatA (G : Prg) (ops : Array Oper) (o : Oper) (env : List AV) (σ : Heap) : Option AV := match o.guard with
  | none => valA G o env σ
  | some (j, want) => match yieldA ops env j with
    | some (.bool b) => if b == want then valA G o env σ else some (.tup [])
    | some (.tup _) => some (.tup [])
    | _ => none

theorem map_same {α : Type} {f : Option α} {σ : Heap} {r : α × Heap} (h : f.map (·, σ) = some r) : r.2 = σ := by
  obtain ⟨z, _, rfl⟩ := Option.map_eq_some_iff.1 h; rfl

theorem ex_flt {G : Prg} {o : Oper} (hf : flt o = true) (hc : ∀ cl, o.op ≠ .call cl) {env : List AV} {σ : Heap} {r : AV × Heap} (h : ex G o.op env σ = some r) : r.2 = σ := by
  unfold flt at hf
  cases hop : o.op <;> simp only [hop, Bool.false_eq_true] at hf <;> simp only [hop, ex] at h
  case call cl => exact absurd hop (hc cl)
  case makeFunc fn a b =>
    cases fn <;> simp only [ex] at h <;> try (cases h; done)
    split at h
    · cases h; rfl
    · cases h
  all_goals (first
    | exact map_same h
    | (split at h <;> first | (cases h; done) | exact map_same h | (cases h; rfl) | (split at h <;> first | (cases h; done) | exact map_same h | (cases h; rfl))))

theorem exB_flt {G : Prg} {cl : Call} {b : Builtin} (hb : cl.callee = .builtin b) (hf : fltCall cl = true) {ts : List TypeId} {xs : List AV} {σ : Heap} {r : AV × Heap} (h : exB G b ts xs σ = some r) : r.2 = σ := by
  unfold fltCall at hf
  rw [hb] at hf
  cases b <;> simp only [Bool.false_eq_true] at hf <;> simp only [exB] at h
  case len => split at h <;> first | (cases h; done) | exact map_same h
  case max => exact map_same h
  case min => exact map_same h

theorem opRun_flt {G : Prg} {o : Oper} (hf : flt o = true) {env : List AV} {σ : Heap} {K : AV → Heap → Prop} (h : OpRun G o env σ K) : ∃ x, valA G o env σ = some x ∧ K x σ := by
  unfold OpRun at h
  unfold valA
  split at h
  case h_1 cl hcl =>
    have hf' : fltCall cl = true := by unfold flt at hf; rw [hcl] at hf; simp at hf; exact hf.2
    unfold CallA at h
    simp only [hcl]
    split at h
    case h_1 b hb =>
      split at h
      case h_2 => cases h
      case h_1 xs hxs =>
        split at h
        case h_2 => cases h
        case h_1 y σ' hex =>
          have := exB_flt hb hf' hex
          subst this
          exact ⟨y, by rw [hb]; simp only [hxs, hex]; rfl, h⟩
    case h_2 f hb => unfold fltCall at hf'; rw [hb] at hf'; cases hf'
    case h_3 hb => cases h
  case h_2 hnc =>
    split at h
    case h_2 => cases h
    case h_1 x σ' hex =>
      have := ex_flt hf (fun cl hcl => hnc cl hcl) hex
      simp only at this
      subst this
      refine ⟨x, ?_, h⟩
      split
      · rename_i cl hcl; exact absurd hcl (hnc cl)
      · rw [hex]; rfl

theorem opRun_of_val {G : Prg} {o : Oper} (hf : flt o = true) {env : List AV} {σ : Heap} {x : AV} (h : valA G o env σ = some x) {K : AV → Heap → Prop} (hk : K x σ) : OpRun G o env σ K := by
  unfold valA at h
  unfold OpRun
  split at h
  case h_1 cl hcl =>
    have hf' : fltCall cl = true := by unfold flt at hf; rw [hcl] at hf; simp at hf; exact hf.2
    simp only [hcl]
    unfold CallA
    split at h
    case h_2 => cases h
    case h_1 b hb =>
      split at h
      case h_2 => cases h
      case h_1 xs hxs =>
        obtain ⟨r, hr, rfl⟩ := Option.map_eq_some_iff.1 h
        have := exB_flt hb hf' hr
        obtain ⟨y, s⟩ := r
        simp only at this
        subst this
        simp only [hb, hxs, hr]
        exact hk
  case h_2 hnc =>
    obtain ⟨r, hr, rfl⟩ := Option.map_eq_some_iff.1 h
    have := ex_flt hf (fun cl hcl => hnc cl hcl) hr
    obtain ⟨y, s⟩ := r
    simp only at this
    subst this
    split
    · rename_i cl hcl; exact absurd hcl (hnc cl)
    · simp only [hr]; exact hk

theorem wantA_flt {G : Prg} {ops : Array Oper} {o : Oper} (hf : flt o = true) {env : List AV} {σ : Heap} {K : AV → Heap → Prop} {Y : Prop} (hY : Y → K (.tup []) σ) (h : WantA ops o env (OpRun G o env σ K) Y) : ∃ x, floatA G ops o env σ = some x ∧ K x σ := by
  unfold WantA at h
  unfold floatA
  split at h
  case h_1 hg => simp only [hg]; exact opRun_flt hf h
  case h_2 j w hg =>
    simp only [hg]
    split at h
    case h_1 b hb =>
      simp only [hb]
      by_cases hbw : (b == w) = true
      · simp only [hbw, Br_true] at h
        simp only [hbw, if_true]
        exact opRun_flt hf h
      · simp only [Bool.not_eq_true] at hbw
        simp only [hbw, Br_false] at h
        simp only [hbw, Bool.false_eq_true, if_false]
        exact ⟨_, rfl, hY h⟩
    case h_2 xs hb => simp only [hb]; exact ⟨_, rfl, hY h⟩
    case h_3 => cases h

theorem wantA_of_flt {G : Prg} {ops : Array Oper} {o : Oper} (hf : flt o = true) {env : List AV} {σ : Heap} {x : AV} (h : floatA G ops o env σ = some x) {K : AV → Heap → Prop} (hk : K x σ) : WantA ops o env (OpRun G o env σ K) (K (.tup []) σ) := by
  unfold floatA at h
  unfold WantA
  split at h
  case h_1 hg => simp only [hg]; exact opRun_of_val hf h hk
  case h_2 j w hg =>
    simp only [hg]
    split at h
    case h_1 b hb =>
      simp only [hb]
      by_cases hbw : (b == w) = true
      · simp only [hbw, if_true] at h
        simp only [hbw, Br_true]
        exact opRun_of_val hf h hk
      · simp only [Bool.not_eq_true] at hbw
        simp only [hbw, Bool.false_eq_true, if_false] at h
        simp only [hbw, Br_false]
        cases h; exact hk
    case h_2 xs hb => simp only [hb]; cases h; exact hk
    case h_3 => cases h

theorem valA_off {G : Prg} {ops : Array Oper} {o : Oper} {env env' : List AV} {σ : Heap} (h : ∀ t ∈ o.looksAt ops, env[t]? = env'[t]?) : valA G o env σ = valA G o env' σ := by
  have hx : ∀ x ∈ o.op.operands, ev G env x = ev G env' x := fun x hx => ev_off fun t ht => h t (looks_op (by rw [← ht]; exact hx))
  unfold valA
  split
  · rename_i cl hcl
    have ha : evs G env cl.args.toList = evs G env' cl.args.toList := evs_congr _ fun x hx' => hx x (by rw [hcl]; simp only [Op.operands, Call.operands]; exact Array.mem_append.2 (.inr (by simpa using hx')))
    rw [ha]
  · rw [ex_congr hx]

theorem floatA_off {G : Prg} {ops : Array Oper} {o : Oper} {env env' : List AV} {σ : Heap} (h : ∀ t ∈ o.looksAt ops, env[t]? = env'[t]?) : floatA G ops o env σ = floatA G ops o env' σ := by
  unfold floatA
  split
  · exact valA_off h
  · rename_i j w hg
    rw [yieldA_off h hg, valA_off h]

theorem map_pair_fst {α : Type} (x : Option α) (s : Heap) : (x.map (·, s)).map Prod.fst = x := by cases x <;> rfl

theorem valA_still {G : Prg} {o : Oper} (hs : still o = true) {env : List AV} {σ σ' : Heap} : valA G o env σ = valA G o env σ' := by
  unfold still at hs
  unfold valA
  cases hop : o.op <;> simp only [hop, Bool.false_eq_true] at hs <;> simp only [ex, map_pair_fst]
  case makeFunc fn a b => cases fn <;> simp only [ex] <;> (first | rfl | (split <;> rfl))
  all_goals (first | rfl | (split <;> first | rfl | simp only [map_pair_fst]))

theorem floatA_still {G : Prg} {ops : Array Oper} {o : Oper} (hs : still o = true) {env : List AV} {σ σ' : Heap} : floatA G ops o env σ = floatA G ops o env σ' := by
  unfold floatA
  rw [valA_still hs]

end Go.Tl
