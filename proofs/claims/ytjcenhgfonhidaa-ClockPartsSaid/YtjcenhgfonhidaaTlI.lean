/- Contracts of functions, lists of operations, code: what has to be shown ('RunC'), and that it is enough. -/
import Derived.Test.YtjcenhgfonhidaaTlH
import Derived.RangeFuncRecord
import Derived.OwnWalkIn
namespace Go.Tl
open Go.RowKit

def Fw (ro : Option Nat) : Fence := { Fence.wide with round := ro }

theorem callsIn_fw {n : Nat} {ro : Option Nat} {P : Program} {f : FuncId} {args : Array Value} {w : World} {R : Ending → World → Prop} (h : CallsIn Fence.wide n P f args w R) : CallsIn (Fw ro) n P f args w R := h
theorem callsIn_of_fw {n : Nat} {ro : Option Nat} {P : Program} {f : FuncId} {args : Array Value} {w : World} {R : Ending → World → Prop} (h : CallsIn (Fw ro) n P f args w R) : CallsIn Fence.wide n P f args w R := h

def collected (r : Nat) : Deferred := { target := .collected r, args := #[] }

/-- The marks of an activation's ranges over functions. -/
def Defs (B : Nat) (c : Cfg) (ds : List Deferred) : Prop := ∃ rs : List Nat, ds = rs.map collected ∧ rs.Nodup ∧ ∀ r ∈ rs, B ≤ r ∧ c.w.heap[r]? = some (.deferred (some [])) ∧ ∀ e ∈ c.L, e.b ≠ r

theorem Defs.mono {B : Nat} {c c' : Cfg} {ds : List Deferred} (h : c.Le c') (d : Defs B c ds) : Defs B c' ds := by
  obtain ⟨rs, h1, h2, h3⟩ := d
  refine ⟨rs, h1, h2, fun r hr => ?_⟩
  obtain ⟨a, b, d⟩ := h3 r hr
  have hlt := (Array.getElem?_eq_some_iff.1 b).1
  refine ⟨a, by rw [h.keep r hlt d]; exact b, fun e he heq => ?_⟩
  rcases h.fresh e he with ⟨e0, h0, q0⟩ | h0
  · exact d e0 h0 (by rw [q0, heq])
  · omega

/-- The round that the activation is of is a loop's. -/
def RoOk (c : Cfg) (ro : Option Nat) : Prop := ∀ l, ro = some l → ∃ r : Loop, c.w.heap[l]? = some (Obj.loop r)

theorem RoOk.mono {c c' : Cfg} {ro : Option Nat} (h : c.Le c') (r : RoOk c ro) : RoOk c' ro := fun l hl => by
  obtain ⟨x, hx⟩ := r l hl
  obtain ⟨y, hy, _⟩ := h.loops l x hx
  exact ⟨y, hy⟩

def Post (G : Prg) (B : Nat) (c : Cfg) (K : Exit → List AV → Heap → Prop) : Exit → Act → World → Prop := fun x a' w' =>
  ∃ c' env' σ', c'.w = w' ∧ c.Le c' ∧ Sim c' σ' ∧ RepL c'.M c'.L env' a'.tmps ∧ Defs B c' a'.defers ∧ K x env' σ'

theorem Post.le {G : Prg} {B : Nat} {c c' : Cfg} {K : Exit → List AV → Heap → Prop} {x : Exit} {a : Act} {w : World} (h : c.Le c') (p : Post G B c' K x a w) : Post G B c K x a w := by
  obtain ⟨c2, env, σ, h1, h2, h3⟩ := p
  exact ⟨c2, env, σ, h1, h.trans h2, h3⟩

/-- What an activation stands on. -/
structure Pre (G : Prg) (ro : Option Nat) (B : Nat) (c : Cfg) (σ : Heap) (env : List AV) (a : Act) : Prop where
  g : GOk G c.M
  s : Sim c σ
  r : RoOk c ro
  e : RepL c.M c.L env a.tmps
  d : Defs B c a.defers
  b : B ≤ c.w.heap.size

/-- Code does what K asks, from abstract temporaries and an abstract heap. -/
def Run (G : Prg) (code : Code) (env : List AV) (σ : Heap) (K : Exit → List AV → Heap → Prop) : Prop :=
  ∀ (ro : Option Nat) (B : Nat) (c : Cfg) (a : Act), Pre G ro B c σ env a → code.wpIn (Fw ro) 0 G.P (Post G B c K) a c.w

theorem Run.mono {G : Prg} {code : Code} {env : List AV} {σ : Heap} {K K' : Exit → List AV → Heap → Prop} (h : Run G code env σ K) (hk : ∀ x e s, K x e s → K' x e s) : Run G code env σ K' :=
  fun ro B c a hp => wpIn_mono (h ro B c a hp) fun x a w ⟨c', e, s, q1, q2, q3, q4, q5, q6⟩ => ⟨c', e, s, q1, q2, q3, q4, q5, hk _ _ _ q6⟩

/-- A function's contract. -/
def Fn (G : Prg) (k : FuncId) (args : List AV) (σ : Heap) (Q : AV → Heap → Prop) : Prop :=
  ∀ (c : Cfg) (vs : Array Value), GOk G c.M → Sim c σ → RepL c.M c.L args vs →
    CallsIn Fence.wide 0 G.P k vs c.w (fun e w' => ∃ c' v r σ', c'.w = w' ∧ c.Le c' ∧ Sim c' σ' ∧ e = .returned v ∧ c'.rep r v ∧ Q r σ')

theorem Fn.mono {G : Prg} {k : FuncId} {args : List AV} {σ : Heap} {Q Q' : AV → Heap → Prop} (h : Fn G k args σ Q) (hq : ∀ r s, Q r s → Q' r s) : Fn G k args σ Q' :=
  fun c vs h1 h2 h3 => (h c vs h1 h2 h3).mono fun _ _ ⟨c', v, r, s, q1, q2, q3, q4, q5, q6⟩ => ⟨c', v, r, s, q1, q2, q3, q4, q5, hq _ _ q6⟩

/-- A call of yield. -/
def Yield (G : Prg) (id : Nat) (args : List AV) (σ : Heap) (Q : AV → Heap → Prop) : Prop :=
  ∀ (c : Cfg) (v : Value) (vs : Array Value), GOk G c.M → Sim c σ → c.rep (.yl id) v → RepL c.M c.L args vs →
    ∃ l f tmps as body, v = .func (.yield l) #[] #[] ∧ (Instr.yield l vs).run G.P c.w = .ok (.round l f tmps as body) c.w ∧
      RoundIn Fence.wide 0 G.P l f tmps as body c.w (fun e w' => ∃ c' v r σ', c'.w = w' ∧ c.Le c' ∧ Sim c' σ' ∧ e = .returned v ∧ c'.rep r v ∧ Q r σ')

/-! ### Builtins -/
def isStr : Option TypeDesc → Bool
  | some .string => true
  | _ => false

theorem isStr_eq {d : Option TypeDesc} (h : isStr d = true) : d = some .string := by
  unfold isStr at h
  split at h
  · rfl
  · cases h

def lenA (G : Prg) (t : TypeId) (x : AV) (σ : Heap) : Option AV :=
  match x with
  | .str s => if isStr (G.P.underlying t) then some (.int .i64 s.size) else none
  | x => match G.row t with
    | some ⟨_, _, .slice _ _ _, _⟩ => if slLive σ x then (lenOfA x).map fun (n : Nat) => AV.int .i64 (n : Int) else none
    | some ⟨_, _, .array n _, _⟩ => some (.int .i64 n)
    | _ => none

def exB (G : Prg) (b : Builtin) (ts : List TypeId) (xs : List AV) (σ : Heap) : Option (AV × Heap) :=
  match b with
  | .len => match ts, xs with
    | [t], [x] => (lenA G t x σ).map (·, σ)
    | _, _ => none
  | .append => match ts, xs with
    | [t, u], [s, x] => match G.row t with
      | some ⟨_, _, .slice e esz eb, _⟩ => match G.row e, G.row u with
        | some _, some ⟨_, _, .slice _ _ _, _⟩ => appendA esz eb σ s x
        | _, _ => none
      | _ => none
    | _, _ => none
  | .max => (foldA maxA xs).map (·, σ)
  | .min => (foldA minA xs).map (·, σ)
  | _ => none

theorem repL_cons_inv {M : Mem} {L : List Ent} {x : AV} {xs : List AV} {vs : Array Value} (h : RepL M L (x :: xs) vs) : ∃ v us, vs = (v :: us).toArray ∧ Rep M L x v ∧ RepL M L xs us.toArray := by
  obtain ⟨h1, h2⟩ := h
  obtain ⟨vs⟩ := vs
  cases vs with
  | nil => simp at h1
  | cons v us => exact ⟨v, us, rfl, h2 0 x v rfl rfl, ⟨by simpa using h1, fun i a b ha hb => h2 (i + 1) a b (by simpa using ha) (by simpa using hb)⟩⟩

theorem repL_nil_inv {M : Mem} {L : List Ent} {vs : Array Value} (h : RepL M L [] vs) : vs = #[] := by
  have := h.1; simp at this; exact Array.eq_empty_of_size_eq_zero this.symm

theorem exB_ok {G : Prg} {c : Cfg} {σ σ' : Heap} (hs : Sim c σ) {b : Builtin} {ts : Array TypeId} {ty : TypeId} {cs : Array Bool} {xs : List AV} {vs : Array Value} (hx : RepL c.M c.L xs vs) {y : AV} (h : exB G b ts.toList xs σ = some (y, σ')) :
    ∃ c' v, (builtin b ts ty cs vs).run G.P c.w = .ok (.value v) c'.w ∧ c.Le c' ∧ Sim c' σ' ∧ c'.rep y v := by
  cases b <;> simp only [exB] at h <;> try (cases h; done)
  case len =>
    split at h
    case h_2 => cases h
    case h_1 t x hts =>
      obtain ⟨z, hz, hh⟩ := Option.map_eq_some_iff.1 h
      cases hh
      obtain ⟨v, us, rfl, h1, h2⟩ := repL_cons_inv hx
      obtain rfl : us = [] := by simpa using repL_nil_inv h2
      obtain rfl : ts = #[t] := by apply Array.ext'; simpa using hts
      unfold lenA at hz
      split at hz
      case h_1 s =>
        split at hz
        case isFalse => cases hz
        case isTrue hq =>
          cases hz; cases h1
          exact ⟨c, _, by simp [builtin, Builtin.len_, run_underlying (isStr_eq hq), goInt], Cfg.Le.refl c, hs, .int _ _⟩
      case h_2 =>
        split at hz
        case h_1 hr =>
          obtain ⟨hu, _⟩ := slice_row hr rfl
          split at hz
          case isFalse => cases hz
          case isTrue hl =>
            obtain ⟨n, hn, hh⟩ := Option.map_eq_some_iff.1 hz
            cases hh
            obtain ⟨a, cap, rfl, _⟩ := lenOf_rep hs h1 hn hl
            exact ⟨c, _, by simp [builtin, Builtin.len_, run_underlying hu, goInt], Cfg.Le.refl c, hs, .int _ _⟩
        case h_2 hr =>
          cases hz
          obtain ⟨e, ie, hu, _⟩ := array_row hr rfl
          exact ⟨c, _, by simp [builtin, Builtin.len_, run_underlying hu, goInt], Cfg.Le.refl c, hs, .int _ _⟩
        case h_3 => cases hz
  case append =>
    split at h
    case h_2 => cases h
    case h_1 t u s x hts =>
      obtain ⟨v, us, rfl, h1, h2⟩ := repL_cons_inv hx
      obtain ⟨v2, us2, he, h3, h4⟩ := repL_cons_inv h2
      obtain rfl : us = v2 :: us2 := by simpa using he
      obtain rfl : us2 = [] := by simpa using repL_nil_inv h4
      obtain rfl : ts = #[t, u] := by apply Array.ext'; simpa using hts
      split at h
      case h_2 => cases h
      case h_1 s1 b1 e esz eb z1 hr =>
        split at h
        case h_2 => cases h
        case h_1 re s2 b2 e2 esz2 eb2 z2 hre hru =>
          obtain ⟨hu2, _⟩ := slice_row hru rfl
          obtain ⟨c', v', q1, q2, q3, q4⟩ := append_ok (ty := ty) hs hr rfl ⟨_, hu2⟩ hre h1 h3 h
          exact ⟨c', v', by simp [builtin, q1], q2, q3, q4⟩
  case max =>
    obtain ⟨z, hz, hh⟩ := Option.map_eq_some_iff.1 h
    cases hh
    cases xs with
    | nil => cases hz
    | cons x xs =>
      obtain ⟨v, us, rfl, h1, h2⟩ := repL_cons_inv hx
      obtain ⟨r, q1, q2⟩ := foldA_ok (P := G.P) (c := c) maxA Builtin.max2 (fun x y z v u a b h => maxA_ok x y z v u a b h) xs us x y v h1 h2 hz
      exact ⟨c, r, by simp [builtin, Builtin.max_, q1], Cfg.Le.refl c, hs, q2⟩
  case min =>
    obtain ⟨z, hz, hh⟩ := Option.map_eq_some_iff.1 h
    cases hh
    cases xs with
    | nil => cases hz
    | cons x xs =>
      obtain ⟨v, us, rfl, h1, h2⟩ := repL_cons_inv hx
      obtain ⟨r, q1, q2⟩ := foldA_ok (P := G.P) (c := c) minA Builtin.min2 (fun x y z v u a b h => minA_ok x y z v u a b h) xs us x y v h1 h2 hz
      exact ⟨c, r, by simp [builtin, Builtin.min_, q1], Cfg.Le.refl c, hs, q2⟩

/-! ### One operation, and lists of them -/
def CallA (G : Prg) (cl : Call) (env : List AV) (σ : Heap) (K : AV → Heap → Prop) : Prop :=
  match cl.callee with
  | .builtin b => match evs G env cl.args.toList with
    | some xs => match exB G b cl.argTypes.toList xs σ with
      | some (y, σ') => K y σ'
      | none => False
    | none => False
  | .value f => match ev G env f, evs G env cl.args.toList with
    | some (.fn k first cap), some xs => G.fns k = true ∧ Fn G k (first ++ xs ++ cap) σ K
    | some (.yl id), some xs => Yield G id xs σ K
    | _, _ => False
  | .invoke _ _ => False

def OpRun (G : Prg) (o : Oper) (env : List AV) (σ : Heap) (K : AV → Heap → Prop) : Prop :=
  match o.op with
  | .call cl => CallA G cl env σ K
  | op => match ex G op env σ with
    | some (x, σ') => K x σ'
    | none => False

theorem isCall (o : Oper) : (∃ cl, o.op = .call cl) ∨ ∀ cl, o.op ≠ .call cl := by
  cases o.op <;> first | exact .inl ⟨_, rfl⟩ | exact .inr (fun cl h => by cases h)

theorem ex_plain {G : Prg} {op : Op} {env : List AV} {σ : Heap} {r : AV × Heap} (h : ex G op env σ = some r) : ∀ cl, op ≠ .defer cl := fun cl he => by
  subst he; simp [ex] at h

theorem op_ok {G : Prg} {o : Oper} {env : List AV} {σ : Heap} {K : AV → Heap → Prop} (h : OpRun G o env σ K) {ro : Option Nat} {c : Cfg} {a : Act} (hG : GOk G c.M) (hs : Sim c σ) (he : RepL c.M c.L env a.tmps)
    {next : Act → World → Prop} {Q : Exit → Act → World → Prop} (hk : ∀ c' x v σ', c.Le c' → Sim c' σ' → c'.rep x v → K x σ' → next (a.put o.dst v) c'.w) (hfn : c.w = c.w := rfl) : o.wpIn (Fw ro) 0 G.P a c.w next Q := by
  refine ⟨fun _ _ => trivial, ?_⟩
  unfold OpRun at h
  split at h
  case h_1 cl hcl =>
    rw [Oper.semAt_plain (Fw ro) _ _ (by rw [hcl]; intro c hc; cases hc)]
    unfold CallA at h
    split at h
    case h_1 b hb =>
      split at h
      case h_2 => cases h
      case h_1 xs hxs =>
        split at h
        case h_2 => cases h
        case h_1 y σ' hex =>
          have hx := evs_arr hG he hxs
          obtain ⟨c', v, h1, h2, h3, h4⟩ := exB_ok (ty := o.type) (cs := cl.args.map fun | .const _ => true | _ => false) hs hx hex
          have hrun : (execOp a.eval o).run G.P c.w = .ok (.value v) c'.w := by
            simp only [execOp, hcl, resolve, hb, Sem.run_bind, Sem.run_pure, Result.andThen_ok, invoke]
            exact h1
          rw [hrun]
          exact hk c' y v σ' h2 h3 h4 h
    case h_2 f hf =>
      split at h
      case h_1 k first cap xs hfv hxs =>
        have hx := evs_arr hG he hxs
        have hfr := ev_rep hG he hfv
        generalize hv : a.eval f = fv at hfr
        cases hfr with
        | fn h1 h2 r1 r2 =>
          rename_i vf vc
          have hargs : RepL c.M c.L (first ++ xs ++ cap) (vf ++ cl.args.map a.eval ++ vc) := by
            have a1 : RepL c.M c.L first vf := ⟨h1, fun i x v hx hv => by obtain ⟨p, rfl⟩ := List.getElem?_eq_some_iff.1 hx; obtain ⟨q, rfl⟩ := Array.getElem?_eq_some_iff.1 hv; exact r1 i p⟩
            have a2 : RepL c.M c.L cap vc := ⟨h2, fun i x v hx hv => by obtain ⟨p, rfl⟩ := List.getElem?_eq_some_iff.1 hx; obtain ⟨q, rfl⟩ := Array.getElem?_eq_some_iff.1 hv; exact r2 i p⟩
            have app : ∀ {p q : List AV} {u v : Array Value}, RepL c.M c.L p u → RepL c.M c.L q v → RepL c.M c.L (p ++ q) (u ++ v) := fun {p q u v} hp hq => by
              refine ⟨by simp [hp.1, hq.1], fun i x y hx hy => ?_⟩
              by_cases hi : i < p.length
              · rw [List.getElem?_append_left hi] at hx
                rw [Array.getElem?_append_left (by rw [← hp.1]; exact hi)] at hy
                exact hp.2 i x y hx hy
              · rw [List.getElem?_append_right (by omega)] at hx
                rw [Array.getElem?_append_right (by rw [← hp.1]; omega), ← hp.1] at hy
                exact hq.2 _ x y hx hy
            exact app (app a1 hx) a2
          have hc := h.2 c _ hG hs hargs
          have hcallee : (callFunc k (vf ++ cl.args.map a.eval ++ vc)).run G.P c.w = .ok (.enter k (vf ++ cl.args.map a.eval ++ vc)) c.w := isFnB_run (G.fnsOk k h.1) _ _
          have hrun : (execOp a.eval o).run G.P c.w = .ok (.enter k (vf ++ cl.args.map a.eval ++ vc)) c.w := by
            simp only [execOp, hcl, resolve, hf, Sem.run_bind, hv, Deferred.ofValue, Sem.run_pure, Result.andThen_ok, invoke]
            exact hcallee
          rw [hrun]
          refine ⟨(fun h => by cases h), (callsIn_fw hc).mono fun e w' ⟨c', v, r, σ', q1, q2, q3, q4, q5, q6⟩ => ?_⟩
          subst q1; subst q4
          exact hk c' r v σ' q2 q3 q5 q6
      case h_2 id xs hfv hxs =>
        have hx := evs_arr hG he hxs
        have hfr := ev_rep hG he hfv
        obtain ⟨l, f', tmps, as, body, hv, hy, hr⟩ := h c _ _ hG hs hfr hx
        have hrun : (execOp a.eval o).run G.P c.w = .ok (.round l f' tmps as body) c.w := by
          simp only [execOp, hcl, resolve, hf, Sem.run_bind, hv, Deferred.ofValue, Sem.run_pure, Result.andThen_ok, invoke, Array.empty_append]
          exact hy
        rw [hrun]
        refine ⟨(fun h => by cases h), RoundIn.mono (F := Fw ro) hr fun e w' ⟨c', v, r, σ', q1, q2, q3, q4, q5, q6⟩ => ?_⟩
        subst q1; subst q4
        exact hk c' r v σ' q2 q3 q5 q6
      case h_3 => cases h
    case h_3 => cases h
  case h_2 hnc =>
    split at h
    case h_2 => cases h
    case h_1 x σ' hex =>
      rw [Oper.semAt_plain (Fw ro) _ _ (ex_plain hex)]
      obtain ⟨c', n, h1, h2, h3, h4⟩ := ex_ok hG hs he hex
      rw [h1]
      rcases h4 with ⟨v, rfl, hr⟩ | ⟨rfl, rfl⟩
      · exact hk c' x v σ' h2 h3 hr h
      · exact hk c' (.tup []) undef σ' h2 h3 (.tup rfl (fun i h => by cases h)) h

end Go.Tl
