/- The rules of a function, of a call of yield, of a range over a function. -/
import Derived.Test.YtjcenhgfonhidaaTlO
namespace Go.Tl
open Go.RowKit

/-! ### A block that is no live one's is shut -/
theorem Sim.shut {c : Cfg} {σ : Heap} {r : Nat} {o : Obj} {ds : Option (List Deferred)} (hs : Sim c σ) (hr : c.w.heap[r]? = some (.deferred ds)) (hL : ∀ e ∈ c.L, e.b ≠ r) : Sim ⟨c.M, c.L, c.w.putObj r o⟩ σ := by
  have hoth : ∀ b, b ≠ r → (c.w.putObj r o).heap[b]? = c.w.heap[b]? := fun b hb => World.putObj_heap_other hb
  refine ⟨hs.len, fun b o' v hM => ?_, fun e he => by simp; exact hs.lt e he, fun id e k he hk => ?_, hs.inj⟩
  · have hc := hs.prot _ _ _ hM
    rw [← hc]
    refine cell?_of_heap (hoth b (fun h => ?_))
    subst h
    simp [World.cell?, hr] at hc
  · have hne := hL e (List.mem_of_getElem? he)
    have hb := hs.blk id e k he hk
    have hh := hoth e.b hne
    cases k with
    | dead => trivial
    | cells row g => obtain ⟨h1, h2, h3, cs, t, h4, rest⟩ := hb; exact ⟨h1, h2, h3, cs, t, by rw [hh, h4], rest⟩
    | loop st pend env ps as body => obtain ⟨h1, l, h2, rest⟩ := hb; exact ⟨h1, l, by rw [hh, h2], rest⟩
    | map es clock => obtain ⟨h1, es', h2, rest⟩ := hb; exact ⟨h1, es', by rw [hh, h2], rest⟩
    | strIter s pos => exact ⟨hb.1, by rw [hh, hb.2]⟩
    | mapIter m since seen stepped => obtain ⟨h1, m', h2, rest⟩ := hb; exact ⟨h1, m', by rw [hh, h2], rest⟩

theorem Cfg.Le.shut {c0 c : Cfg} {r : Nat} {o : Obj} {ds : Option (List Deferred)} (h : c0.Le c) (hr : c.w.heap[r]? = some (.deferred ds)) (h0 : c0.w.heap.size ≤ r) (ho : c.w.output = c.w.output := rfl) : c0.Le ⟨c.M, c.L, c.w.putObj r o⟩ where
  mem := h.mem
  ents := h.ents
  size := by simp; exact h.size
  keep := fun b hb hn => by
    show (c.w.putObj r o).heap[b]? = _
    rw [World.putObj_heap_other (by omega)]; exact h.keep b hb hn
  fresh := h.fresh
  mfresh := h.mfresh
  out := h.out
  os := h.os
  loops := fun b x hx => by
    have hlt := (Array.getElem?_eq_some_iff.1 hx).1
    show ∃ r', (c.w.putObj r o).heap[b]? = _ ∧ _
    rw [World.putObj_heap_other (by omega)]; exact h.loops b x hx

/-! ### Results -/
def resA (G : Prg) (env : List AV) (σ : Heap) : List ResultVar → Option (List AV)
  | [] => some []
  | .tmp t :: rs => match env[t]?, resA G env σ rs with
    | some x, some xs => some (x :: xs)
    | _, _ => none
  | .cell a t :: rs => match env[a]?, G.row t with
    | some p, some r => match loadA r σ p, resA G env σ rs with
      | some x, some xs => some (x :: xs)
      | _, _ => none
    | _, _ => none

def resV (xs : List AV) : AV := match xs with
  | [x] => x
  | xs => .tup xs

def resOne (tmps : Array Value) : ResultVar → Sem Value
  | .tmp t => pure (tmps.getD t undef)
  | .cell a t => do loadVar t (← asAddr (tmps.getD a undef))

theorem res_list {G : Prg} {c : Cfg} {σ : Heap} (hs : Sim c σ) {env : List AV} {tmps : Array Value} (he : RepL c.M c.L env tmps) : ∀ (rs : List ResultVar) (xs : List AV), resA G env σ rs = some xs →
    ∃ vs : List Value, (rs.mapM (resOne tmps) : Sem (List Value)).run G.P c.w = .ok vs c.w ∧ RepL c.M c.L xs vs.toArray
  | [], xs, h => by cases h; exact ⟨[], by simp, repL_nil⟩
  | .tmp t :: rs, xs, h => by
    simp only [resA] at h
    split at h
    case h_2 => cases h
    case h_1 x ys hx hys =>
      cases h
      obtain ⟨vs, h1, h2⟩ := res_list hs he rs ys hys
      obtain ⟨v, hv, hr⟩ := he.get hx
      refine ⟨v :: vs, by simp [List.mapM_cons, h1, resOne, Array.getD_eq_getD_getElem?, hv], ⟨by simpa using h2.1, fun i a b ha hb => ?_⟩⟩
      cases i with
      | zero => simp at ha hb; subst ha; subst hb; exact hr
      | succ i => exact h2.2 i a b (by simpa using ha) (by simpa using hb)
  | .cell p t :: rs, xs, h => by
    simp only [resA] at h
    split at h
    case h_2 => cases h
    case h_1 q r hq hr =>
      split at h
      case h_2 => cases h
      case h_1 x ys hx hys =>
        cases h
        obtain ⟨vs, h1, h2⟩ := res_list hs he rs ys hys
        obtain ⟨v, hv, hrep⟩ := he.get hq
        obtain ⟨u, hu, hur⟩ := load_ok hs hr hrep hx
        have hget : tmps.getD p undef = v := by simp [Array.getD_eq_getD_getElem?, hv]
        have hl : (do loadVar t (← asAddr v) : Sem Value).run G.P c.w = .ok u c.w := by
          unfold loadA at hx
          split at hx
          case h_2 => cases hx
          case h_1 row off hrd =>
            obtain ⟨b, o, rfl, _⟩ := rd_rep hs hrep hrd
            simpa [Instr.loadAt, Instr.sureAddr, asAddr] using hu
        refine ⟨u :: vs, by simp only [List.mapM_cons, resOne, hget, Sem.run_bind] at hl ⊢; rw [hl]; simp [h1], ⟨by simpa using h2.1, fun i a b ha hb => ?_⟩⟩
        cases i with
        | zero => simp at ha hb; subst ha; subst hb; exact hur
        | succ i => exact h2.2 i a b (by simpa using ha) (by simpa using hb)

theorem results_ok {G : Prg} {c : Cfg} {σ : Heap} (hs : Sim c σ) {env : List AV} {tmps : Array Value} (he : RepL c.M c.L env tmps) {fn : Func} {xs : List AV} (h : resA G env σ fn.results.toList = some xs) :
    ∃ v, (results fn tmps).run G.P c.w = .ok v c.w ∧ c.rep (resV xs) v := by
  obtain ⟨vs, h1, h2⟩ := res_list hs he _ _ h
  refine ⟨if h : vs.toArray.size = 1 then vs.toArray[0] else .tuple vs.toArray, ?_, ?_⟩
  · show ((do let vs ← fn.results.mapM (resOne tmps); pure (if h : vs.size = 1 then vs[0] else .tuple vs) : Sem Value).run G.P c.w) = _
    rw [Array.mapM_eq_mapM_toList]
    simp [h1]
  · have hl := h2.1
    unfold resV
    split
    · rename_i x
      simp at hl
      have h1' : vs.toArray.size = 1 := by simp [← hl]
      rw [dif_pos h1']
      exact h2.2 0 _ _ rfl (Array.getElem?_eq_getElem _)
    · rename_i hne
      rw [dif_neg (fun h => ?_)]
      · exact repL_tup.2 h2
      · cases xs with
        | nil => simp only [List.length_nil] at hl; omega
        | cons x xs => cases xs with
          | nil => exact hne _ rfl
          | cons y ys => simp only [List.length_cons] at hl; omega

/-- What a function's body has to come to. -/
def Ends (G : Prg) (rs : List ResultVar) (Q : AV → Heap → Prop) : Exit → List AV → Heap → Prop
  | .normal, e, s | .ret, e, s => match resA G e s rs with
    | some xs => Q (resV xs) s
    | none => False
  | _, _, _ => False

theorem leaves_ok {G : Prg} {fn : Func} {Q : AV → Heap → Prop} {c0 : Cfg} {σ : Heap} {env : List AV} {tmps : Array Value} {xs : List AV} (hx : resA G env σ fn.results.toList = some xs) (hq : Q (resV xs) σ) :
    ∀ (rs : List Nat) (c : Cfg), c0.Le c → Sim c σ → RepL c.M c.L env tmps → rs.Nodup → (∀ r ∈ rs, c0.w.heap.size ≤ r ∧ c.w.heap[r]? = some (.deferred (some [])) ∧ ∀ e ∈ c.L, e.b ≠ r) →
      LeavesInM Fence.wide 0 G.P fn tmps (fun e w' => ∃ c' v r σ', c'.w = w' ∧ c0.Le c' ∧ Sim c' σ' ∧ e = .returned v ∧ c'.rep r v ∧ Q r σ') (rs.map collected) .returning c.w
  | [], c, hle, hs, he, _, _ => by
    obtain ⟨v, h1, h2⟩ := results_ok hs he hx
    exact ⟨v, h1, c, v, _, σ, rfl, hle, hs, rfl, h2, hq⟩
  | r :: rs, c, hle, hs, he, hnd, hall => by
    obtain ⟨h1, h2, h3⟩ := hall r (by simp)
    have hnd' := List.nodup_cons.1 hnd
    refine ⟨by simp, .inl ⟨r, _, rfl, run_takeDeferred h2, ?_⟩⟩
    refine leaves_ok hx hq rs ⟨c.M, c.L, c.w.putObj r (.deferred none)⟩ (hle.shut h2 h1) (hs.shut h2 h3) he hnd'.2 (fun r' hr' => ?_)
    obtain ⟨q1, q2, q3⟩ := hall r' (by simp [hr'])
    refine ⟨q1, ?_, q3⟩
    show (c.w.putObj r (.deferred none)).heap[r']? = _
    rw [World.putObj_heap_other (fun h => hnd'.1 (by rw [← h]; exact hr'))]; exact q2

theorem Fn.intro (pls : Plans) {G : Prg} {k : FuncId} {fn : Func} {code : Code} {args : List AV} {σ : Heap} {Q : AV → Heap → Prop} (hf : G.P.funcs[k]? = some fn) (hb : fn.body = some code) (hp : codeB pls code = true)
    (h : RunC G pls code (args ++ List.replicate (fn.ntmps - args.length) (.tup [])) σ (Ends G fn.results.toList Q)) : Fn G k args σ Q := by
  intro c vs hG hs hv
  refine callsIn_of_wp_marks hf hb trivial (wpIn_mono (runC_ok code hp _ σ _ h none c.w.heap.size c _ ⟨hG, hs, (fun l hl => by cases hl), ?_, ⟨[], rfl, List.nodup_nil, (fun r hr => by cases hr)⟩, Nat.le_refl _⟩) ?_)
  · refine ⟨by simp [hv.1], fun i x v hx hv' => ?_⟩
    by_cases hi : i < args.length
    · rw [List.getElem?_append_left hi] at hx
      rw [Array.getElem?_append_left (by rw [← hv.1]; exact hi)] at hv'
      exact hv.2 i x v hx hv'
    · rw [List.getElem?_append_right (by omega)] at hx
      rw [Array.getElem?_append_right (by rw [← hv.1]; omega)] at hv'
      have hx1 := List.eq_of_mem_replicate (List.mem_of_getElem? hx)
      have hv1 := Array.eq_of_mem_replicate (Array.mem_of_getElem? hv')
      subst hx1; subst hv1
      exact .tup rfl (fun i h => by cases h)
  · rintro e a' w' ⟨c', env', σ', rfl, q1, q2, q3, ⟨rs, d1, d2, d3⟩, q5⟩
    have main : ∀ e : Exit, (e = .normal ∨ e = .ret) → Ends G fn.results.toList Q e env' σ' → LeavesInM Fence.wide 0 G.P fn a'.tmps (fun e w' => ∃ c' v r σ', c'.w = w' ∧ c.Le c' ∧ Sim c' σ' ∧ e = .returned v ∧ c'.rep r v ∧ Q r σ') a'.defers .returning c'.w := by
      intro e he hE
      have : ∃ xs, resA G env' σ' fn.results.toList = some xs ∧ Q (resV xs) σ' := by
        rcases he with rfl | rfl
        all_goals
          simp only [Ends] at hE
          split at hE
          · exact ⟨_, by assumption, hE⟩
          · exact hE.elim
      obtain ⟨xs, hx, hq⟩ := this
      rw [d1]
      exact leaves_ok hx hq rs c' q1 q2 q3 d2 d3
    cases e with
    | normal => exact main _ (.inl rfl) q5
    | ret => exact main _ (.inr rfl) q5
    | exit id => exact q5.elim
    | goto l => exact q5.elim
    | panic ch => exact q5.elim
    | outgrown => exact q5.elim

/-! ### Yield -/
def putAll (env : List AV) (ps : List Nat) (args : List AV) : List AV := (ps.zip args).foldl (fun e x => e.set x.1 x.2) env

theorem putAll_rep {M : Mem} {L : List Ent} : ∀ (ps : List Nat) (args : List AV) (vs : List Value) (env : List AV) (tmps : Array Value), RepL M L args vs.toArray → RepL M L env tmps →
    RepL M L (putAll env ps args) ((ps.zip vs).foldl (fun t (x : Nat × Value) => t.setIfInBounds x.1 x.2) tmps)
  | [], _, _, env, tmps, _, he => by simpa [putAll] using he
  | _ :: _, [], vs, env, tmps, ha, he => by
    have : vs = [] := by have := ha.1; simpa using this.symm
    subst this; simpa [putAll] using he
  | _ :: _, _ :: _, [], _, _, ha, _ => by have := ha.1; simp at this
  | p :: ps, x :: args, v :: vs, env, tmps, ha, he => by
    simp only [putAll, List.zip_cons_cons, List.foldl_cons]
    refine putAll_rep ps args vs _ _ ⟨by simpa using ha.1, fun i a b hx hy => ha.2 (i + 1) a b (by simpa using hx) (by simpa using hy)⟩ ?_
    have := putA_rep (dst := some p) (a := ⟨tmps, []⟩) he (ha.2 0 x v rfl rfl)
    simpa [putA, Act.put] using this

theorem loop_put {c : Cfg} {σ : Heap} {id : Nat} {e : Ent} {st : LoopState} {pend : Option Code} {env : List AV} {ps : List Tmp} {as body : Code} (hs : Sim c σ) (he : c.L[id]? = some e) (hσ : σ[id]? = some (.loop st pend env ps as body)) :
    ∃ l : Loop, c.w.heap[e.b]? = some (.loop l) ∧ e.g = 0 ∧ l.state = st ∧ l.pending = pend ∧ l.params = ps.toArray ∧ l.assign = as ∧ l.body = body ∧ RepL c.M c.L env l.tmps ∧
      ∀ (st' : LoopState) (pend' : Option Code), c.Le ⟨c.M, c.L, c.w.putObj e.b (.loop { l with state := st', pending := pend' })⟩ ∧ Sim ⟨c.M, c.L, c.w.putObj e.b (.loop { l with state := st', pending := pend' })⟩ (σ.set id (.loop st' pend' env ps as body)) := by
  obtain ⟨h0, l, h1, h2, h3, h4, h5, h6, h7⟩ := hs.blk _ _ _ he hσ
  refine ⟨l, h1, h0, h2, h3, h4, h5, h6, h7, fun st' pend' => ?_⟩
  have hlt := hs.lt e (List.mem_of_getElem? he)
  have := Sim.put (e' := e) (k' := .loop st' pend' env ps as body) (w' := c.w.putObj e.b (.loop { l with state := st', pending := pend' })) hs he hσ rfl (Nat.le_refl _) (fun _ => rfl) (.inl rfl) (by simpa using hlt) (by simp)
    (fun b _ hne => World.putObj_heap_other hne) rfl rfl (fun r hr => ⟨_, World.putObj_heap_same hlt, by rw [h1] at hr; cases hr; rfl⟩)
    (fun hle => ⟨h0, { l with state := st', pending := pend' }, World.putObj_heap_same hlt, rfl, rfl, h4, h5, h6, h7.mono hle⟩)
  have hset : c.L.set id e = c.L := by
    apply List.ext_getElem?
    intro i
    by_cases hi : id = i
    · subst hi; obtain ⟨hlt, hh⟩ := List.getElem?_eq_some_iff.1 he; rw [List.getElem?_set_self hlt, he]
    · rw [List.getElem?_set_ne hi]
  rw [hset] at this
  exact this

/-- How a round ends. -/
def RoundEnd (id : Nat) (env : List AV) (ps : List Tmp) (as body : Code) (Q : AV → Heap → Prop) : Exit → List AV → Heap → Prop := fun x _ σ =>
  (∃ st pend, σ[id]? = some (.loop st pend env ps as body)) ∧ match x with
    | .normal => Q (.bool true) (σ.set id (.loop .ready none env ps as body))
    | .ret => Q (.bool false) (σ.set id (.loop .done (some .ret) env ps as body))
    | .exit i => Q (.bool false) (σ.set id (.loop .done (some (.exit i)) env ps as body))
    | .goto i => Q (.bool false) (σ.set id (.loop .done (some (.goto i)) env ps as body))
    | _ => False

/-- What a round has to come to: the assignments, then the body. -/
def RoundRun (G : Prg) (pls : Plans) (id : Nat) (args : List AV) (σ : Heap) (env : List AV) (ps : List Tmp) (as body : Code) (Q : AV → Heap → Prop) : Prop :=
  RunC G pls as (putAll env ps args) σ fun x env1 σ1 => match x with
    | .normal => (∃ pend, σ1[id]? = some (.loop .ready pend env ps as body) ∧ RunC G pls body env1 (σ1.set id (.loop .busy pend env ps as body)) (RoundEnd id env ps as body Q))
    | _ => False

theorem Yield.intro (pls : Plans) {G : Prg} {id : Nat} {args : List AV} {σ : Heap} {Q : AV → Heap → Prop} {st : LoopState} {pend : Option Code} {env : List AV} {ps : List Tmp} {as body : Code} (hσ : σ[id]? = some (.loop st pend env ps as body)) (hl : args.length = ps.length) (hpa : codeB pls as = true) (hpb : codeB pls body = true)
    (h : RoundRun G pls id args σ env ps as body Q) : Yield G id args σ Q := by
  intro c v vs hG hs hy hv
  cases hy with
  | yl he h1 hv' =>
    rename_i e
    obtain ⟨l, k1, k2, k3, k4, k5, k6, k7, k8, _⟩ := loop_put hs he hσ
    have hv' := hv' k2
    subst hv'
    have hsz : vs.size = l.params.size := by rw [← hv.1, hl, k5]; simp
    refine ⟨e.b, l.fn, _, l.assign, l.body, rfl, run_yield k1 hsz, ?_⟩
    refine roundIn_of_wpIn (F := Fence.wide) trivial ?_
    rw [k6, k7]
    have hrep := putAll_rep ps args vs.toList env l.tmps (by simpa using hv) k8
    have htm : (l.params.zip vs).foldl (fun tmps (x : Tmp × Value) => tmps.setIfInBounds x.1 x.2) l.tmps = (ps.zip vs.toList).foldl (fun t (x : Nat × Value) => t.setIfInBounds x.1 x.2) l.tmps := by
      rw [k5, ← Array.foldl_toList]; simp
    have hro : RoOk c (some e.b) := fun l' hl' => by cases hl'; exact ⟨l, k1⟩
    refine wpIn_mono (runC_ok as hpa _ σ _ h (some e.b) 0 c _ ⟨hG, hs, hro, ?_, ⟨[], rfl, List.nodup_nil, (fun r hr => by cases hr)⟩, Nat.zero_le _⟩) ?_
    · show RepL c.M c.L _ ((l.params.zip vs).foldl _ l.tmps)
      rw [htm]; exact hrep
    · rintro x a1 w1 ⟨c1, env1, σ1, rfl, q1, q2, q3, q4, q5⟩
      cases x <;> try (exact q5.elim)
      obtain ⟨pend1, hσ1, hbody⟩ := q5
      obtain ⟨e1, he1, hg1, hq1⟩ := q1.ents _ _ he
      have hge : e1.g = 0 := (q2.blk _ _ _ he1 hσ1).1
      have hee := hq1 (by omega)
      subst hee
      obtain ⟨l1, m1, m2, m3, m4, m5, m6, m7, m8, mput⟩ := loop_put q2 he1 hσ1
      obtain ⟨le2, s2⟩ := mput .busy pend1
      refine ⟨_, run_beginRound m1 m3, ?_⟩
      have hpe : ({ l1 with state := LoopState.busy } : Loop) = { l1 with state := .busy, pending := pend1 } := by rw [← m4]
      rw [hpe]
      refine wpIn_mono (runC_ok body hpb env1 _ _ hbody (some e1.b) 0 ⟨c1.M, c1.L, c1.w.putObj e1.b (.loop { l1 with state := .busy, pending := pend1 })⟩ a1 ⟨GOk.mono (Mem.le_trans q1.mem le2.mem) hG, s2, (hro.mono q1).mono le2, RepL.mono le2 q3, q4.mono le2, Nat.zero_le _⟩) ?_
      rintro x2 a2 w2 ⟨c2, env2, σ2, rfl, r1, r2, r3, r4, ⟨⟨st2, pend2, hσ2⟩, r5⟩⟩
      obtain ⟨e2, he2, hg2, hq2⟩ := r1.ents _ _ he1
      have hge2 : e2.g = 0 := (r2.blk _ _ _ he2 hσ2).1
      have hee2 := hq2 (by omega)
      subst hee2
      obtain ⟨l2, n1, n2, n3, n4, n5, n6, n7, n8, nput⟩ := loop_put r2 he2 hσ2
      have fin : ∀ (j : Option Code) (b : Bool), j.isNone = b → Q (.bool b) (σ2.set id (.loop (if j.isNone then .ready else .done) j env ps as body)) →
          ∃ v w', (Instr.endRound e2.b j).run G.P c2.w = .ok v w' ∧ (∃ (c' : Cfg) (v' : Value) (r : AV) (σ' : Heap), c'.w = w' ∧ c.Le c' ∧ Sim c' σ' ∧ (Ending.returned v) = Ending.returned v' ∧ c'.rep r v' ∧ Q r σ') := fun j b hj hQ => by
        obtain ⟨le3, s3⟩ := nput (if j.isNone then .ready else .done) j
        refine ⟨_, _, run_endRound j n1, _, _, .bool b, _, rfl, (q1.trans le2).trans (r1.trans le3), s3, rfl, ?_, hQ⟩
        rw [hj]; exact .bool b
      cases x2 with
      | normal => exact fin none true rfl r5
      | ret => exact fin (some .ret) false rfl r5
      | exit i => exact fin (some (.exit i)) false rfl r5
      | goto i => exact fin (some (.goto i)) false rfl r5
      | panic ch => exact r5.elim
      | outgrown => exact r5.elim

/-! ### A range over a function -/
/-- What is asked when the iterator has returned. -/
def RangeEnd (G : Prg) (id : Nat) (env : List AV) (ps : List Tmp) (as body : Code) (K : Exit → List AV → Heap → Prop) : AV → Heap → Prop := fun _ σ =>
  match σ[id]? with
  | some (.loop .ready none _ _ _ _) => σ[id]? = some (.loop .ready none env ps as body) ∧ K .normal env (σ.set id .dead)
  | some (.loop .done (some j) _ _ _ _) => σ[id]? = some (.loop .done (some j) env ps as body) ∧ codeB [] j = true ∧ RunC G [] j env (σ.set id .dead) K
  | _ => False

theorem Sim.kill {c : Cfg} {σ : Heap} (hs : Sim c σ) (id : Nat) : Sim c (σ.set id .dead) := by
  refine ⟨by rw [hs.len]; simp, hs.prot, hs.lt, fun i e k he hk => ?_, fun i j e e' k he he' hk hal heq => ?_⟩
  · by_cases hi : id = i
    · subst hi
      have hlt : id < σ.length := by rw [← hs.len]; exact (List.getElem?_eq_some_iff.1 he).1
      rw [List.getElem?_set_self hlt] at hk; cases hk; trivial
    · rw [List.getElem?_set_ne hi] at hk; exact hs.blk i e k he hk
  · by_cases hi : id = i
    · subst hi
      have hlt : id < σ.length := by rw [← hs.len]; exact (List.getElem?_eq_some_iff.1 he).1
      rw [List.getElem?_set_self hlt] at hk; cases hk; cases hal
    · rw [List.getElem?_set_ne hi] at hk; exact hs.inj i j e e' k he he' hk hal heq

theorem run_enterLoop_in {P : Program} {w : World} {l₀ : Nat} {r : Loop} (h : w.heap[l₀]? = some (.loop r)) (fn : FuncId) (tmps : Array Value) (ps : Array Tmp) (assign body : Code) :
    (Instr.enterLoop fn tmps ps assign body (some l₀)).run P w = .ok (w.heap.size, []) (w.alloc (.loop { state := .ready, pending := none, fn, tmps, params := ps, assign, body, defers := r.defers })) := by
  unfold Instr.enterLoop
  simp only [Sem.run_bind, run_getLoop h, Result.andThen, Sem.run_pure, run_newObj_alloc]

theorem old_get (w : World) (o : Obj) {k : Nat} (hk : k < w.heap.size) : (w.alloc o).heap[k]? = w.heap[k]? := by
  show (w.heap.push o)[k]? = _
  rw [Array.getElem?_push, if_neg (by omega)]

theorem Range.intro {G : Prg} {f : Operand} {ps : Array Tmp} {as body : Code} {env : List AV} {σ : Heap} {K : Exit → List AV → Heap → Prop} {k : FuncId} {first cap : List AV} (hf : ev G env f = some (.fn k first cap)) (hk : G.fns k = true)
    (h : Fn G k (first ++ [.yl σ.length] ++ cap) (σ ++ [.loop .ready none env ps.toList as body]) (RangeEnd G σ.length env ps.toList as body K)) : Run G (.rangeFunc f ps as body) env σ K := by
  rintro ro B c a ⟨hG, hs, hr, he, hd, hB⟩
  refine wpIn_rangeFunc (fun fn _ => ?_)
  have hfr := ev_rep hG he hf
  -- the record is laid in c1's world
  have laid : ∀ (c1 : Cfg) (rc : Loop), rc.state = .ready → rc.pending = none → rc.params = ps → rc.assign = as → rc.body = body → rc.tmps = a.tmps → c.Le c1 → Sim c1 σ →
      ∀ ds : List Deferred, Defs B ⟨c1.M, c1.L ++ [⟨c1.w.heap.size, 0, 0, 0⟩], c1.w.alloc (.loop rc)⟩ ds → B ≤ c1.w.heap.size → RoOk c1 ro →
      ∃ d f' args, (resolve a.eval (rangeCall f c1.w.heap.size) 0).run G.P (c1.w.alloc (.loop rc)) = .ok d (c1.w.alloc (.loop rc)) ∧
        (invoke d.target d.args).run G.P (c1.w.alloc (.loop rc)) = .ok (.enter f' args) (c1.w.alloc (.loop rc)) ∧
        CallsIn Fence.wide 0 G.P f' args (c1.w.alloc (.loop rc)) (rangePost (Fw ro) 0 G.P c1.w.heap.size (Post G B c K) { a with defers := ds }) := by
    intro c1 rc e1 e2 e3 e4 e5 e6 hle hs1 ds hds hB1 hro1
    obtain ⟨le2, s2⟩ := Sim.new (c := c1) (e' := ⟨c1.w.heap.size, 0, 0, 0⟩) (k' := .loop .ready none env ps.toList as body) (o := .loop rc) hs1 rfl
      (fun hle2 => ⟨rfl, rc, alloc_get _ _, e1, e2, by rw [e3], e4, e5, by rw [e6]; exact RepL.mono (hle.trans hle2) he⟩)
    have hfr2 := (hle.trans le2).rep hfr
    generalize hv : a.eval f = fv at hfr2
    generalize hW : c1.w.alloc (.loop rc) = W1 at *
    have hLid : (c1.L ++ [(⟨c1.w.heap.size, 0, 0, 0⟩ : Ent)])[σ.length]? = some ⟨c1.w.heap.size, 0, 0, 0⟩ := by rw [← hs1.len]; simp
    generalize hL1 : c1.L ++ [(⟨c1.w.heap.size, 0, 0, 0⟩ : Ent)] = L1 at *
    generalize hl : c1.w.heap.size = l at *
    have leW := hle.trans le2
    have gW := GOk.mono leW.mem hG
    cases hfr2 with
    | fn h1 h2 r1 r2 =>
      rename_i vf vc
      have hyl : Rep c1.M L1 (.yl σ.length) (.func (.yield l) #[] #[]) := .yl (e := ⟨l, 0, 0, 0⟩) hLid trivial (fun _ => rfl)
      have hargs : RepL c1.M L1 (first ++ [.yl σ.length] ++ cap) (vf ++ #[.func (.yield l) #[] #[]] ++ vc) := by
        have a1 : RepL c1.M L1 first vf := ⟨h1, fun i x v hx hv => by obtain ⟨p, rfl⟩ := List.getElem?_eq_some_iff.1 hx; obtain ⟨q, rfl⟩ := Array.getElem?_eq_some_iff.1 hv; exact r1 i p⟩
        have a2 : RepL c1.M L1 cap vc := ⟨h2, fun i x v hx hv => by obtain ⟨p, rfl⟩ := List.getElem?_eq_some_iff.1 hx; obtain ⟨q, rfl⟩ := Array.getElem?_eq_some_iff.1 hv; exact r2 i p⟩
        exact (a1.append (repL_one hyl)).append a2
      have hcall := h ⟨c1.M, L1, W1⟩ _ gW s2 hargs
      refine ⟨⟨.fn (.func k) vc, vf ++ #[.func (.yield l) #[] #[]]⟩, k, vf ++ #[.func (.yield l) #[] #[]] ++ vc, ?_, ?_, ?_⟩
      · have hcv : ∀ v, a.eval (.const v) = v := fun _ => rfl
        simp [resolve, rangeCall, hv, hcv, Deferred.ofValue]
      · simp only [invoke]
        exact isFnB_run (G.fnsOk k hk) _ _
      · refine CallsIn.mono hcall ?_
        rintro e w' ⟨c', v, r, σ', rfl, q1, q2, rfl, q4, q5⟩
        have lec : c.Le c' := leW.trans q1
        obtain ⟨e', he', hg', hq'⟩ := q1.ents σ.length ⟨l, 0, 0, 0⟩ hLid
        -- the record as it stands
        have fin : ∀ st pend, σ'[σ.length]? = some (.loop st pend env ps.toList as body) → st ≠ .busy → ∃ w4, (Instr.endLoop l).run G.P c'.w = .ok pend w4 ∧
            ∃ c4 : Cfg, c4.w = w4 ∧ c.Le c4 ∧ Sim c4 (σ'.set σ.length .dead) ∧ GOk G c4.M ∧ RoOk c4 ro ∧ RepL c4.M c4.L env a.tmps ∧ Defs B c4 ds ∧ B ≤ c4.w.heap.size := fun st pend hσ' hst => by
          have hge : e'.g = 0 := (q2.blk _ _ _ he' hσ').1
          have hee := hq' (by simpa using hge)
          subst hee
          obtain ⟨l2, n1, n2, n3, n4, n5, n6, n7, n8, nput⟩ := loop_put q2 he' hσ'
          obtain ⟨le3, s3⟩ := nput .exhausted pend
          refine ⟨_, by have hq := run_endLoop (P := G.P) n1 (by rw [n3]; exact hst); rw [n4] at hq; exact hq, ⟨c'.M, c'.L, c'.w.putObj l (.loop { l2 with state := .exhausted, pending := pend })⟩, rfl, ?_⟩
          refine ⟨lec.trans le3, ?_, GOk.mono (Mem.le_trans lec.mem le3.mem) hG, (hr.mono lec).mono le3, RepL.mono (lec.trans le3) he, (hds.mono q1).mono le3, Nat.le_trans hB (lec.trans le3).size⟩
          have := s3.kill σ.length
          rwa [List.set_set] at this
        unfold RangeEnd at q5
        split at q5
        case h_1 =>
          obtain ⟨q5, q6⟩ := q5
          obtain ⟨w4, hrun, c4, rfl, t1, t2, t3, t4, t5, t6, t7⟩ := fin _ _ q5 (by simp)
          exact ⟨none, _, hrun, c4, env, _, rfl, t1, t2, t5, t6, q6⟩
        case h_2 =>
          rename_i j _ _ _ _ _
          obtain ⟨q5, q5b, q6⟩ := q5
          obtain ⟨w4, hrun, c4, rfl, t1, t2, t3, t4, t5, t6, t7⟩ := fin _ _ q5 (by simp)
          exact ⟨some j, _, hrun, wpIn_mono (runC_ok j q5b env _ K q6 ro B c4 _ ⟨t3, t2, t4, t5, t6, t7⟩) fun e2 a2 w2 p => Post.le t1 p⟩
        case h_3 => exact q5.elim
  cases ro with
  | none =>
    obtain ⟨le1, s1⟩ := Sim.other (o := .deferred (some [])) hs
    obtain ⟨rs, d1, d2, d3⟩ := hd
    have hd' : Defs B ⟨c.M, c.L ++ [⟨(c.w.alloc (.deferred (some []))).heap.size, 0, 0, 0⟩], (c.w.alloc (.deferred (some []))).alloc (.loop { state := .ready, pending := none, fn, tmps := a.tmps, params := ps, assign := as, body, defers := c.w.heap.size })⟩ (collected c.w.heap.size :: a.defers) := by
      refine ⟨c.w.heap.size :: rs, by simp [d1], List.nodup_cons.2 ⟨fun hm => ?_, d2⟩, fun r hr => ?_⟩
      · have := (Array.getElem?_eq_some_iff.1 (d3 _ hm).2.1).1; omega
      · have hget : ∀ b o, c.w.heap[b]? = some o → ((c.w.alloc (.deferred (some []))).alloc (.loop { state := .ready, pending := none, fn, tmps := a.tmps, params := ps, assign := as, body, defers := c.w.heap.size })).heap[b]? = some o := fun b o hb => by
          have hlt := (Array.getElem?_eq_some_iff.1 hb).1
          rw [old_get _ _ (by simp; omega), old_get _ _ hlt]; exact hb
        rcases List.mem_cons.1 hr with rfl | hr
        · refine ⟨hB, ?_, fun e he heq => ?_⟩
          · rw [old_get _ _ (by simp)]; exact alloc_get _ _
          · rcases List.mem_append.1 he with he | he
            · have := hs.lt e he; omega
            · simp at he; subst he; simp at heq
        · obtain ⟨q1, q2, q3⟩ := d3 r hr
          refine ⟨q1, hget _ _ q2, fun e he heq => ?_⟩
          rcases List.mem_append.1 he with he | he
          · exact q3 e he heq
          · have := (Array.getElem?_eq_some_iff.1 q2).1
            simp at he; subst he; simp at heq; omega
    obtain ⟨d, f', args, t1, t2, t3⟩ := laid ⟨c.M, c.L, c.w.alloc (.deferred (some []))⟩ { state := .ready, pending := none, fn, tmps := a.tmps, params := ps, assign := as, body, defers := c.w.heap.size } rfl rfl rfl rfl rfl rfl le1 s1
      (collected c.w.heap.size :: a.defers) hd' (by simp; omega) (fun l hl => by cases hl)
    have hen := run_enterLoop_outer (P := G.P) (w := c.w) fn a.tmps ps as body
    rw [show c.w.heap.size + 1 = (c.w.alloc (.deferred (some []))).heap.size by simp] at hen
    exact ⟨_, _, _, d, _, f', args, _, hen, t1, (fun _ _ => trivial), t2, (fun h => by cases h), callsIn_fw t3⟩
  | some l =>
    obtain ⟨r0, hr0⟩ := hr l rfl
    obtain ⟨rs, d1, d2, d3⟩ := hd
    have hd' : Defs B ⟨c.M, c.L ++ [⟨c.w.heap.size, 0, 0, 0⟩], c.w.alloc (.loop { state := .ready, pending := none, fn, tmps := a.tmps, params := ps, assign := as, body, defers := r0.defers })⟩ a.defers := by
      refine ⟨rs, d1, d2, fun r hr => ?_⟩
      obtain ⟨q1, q2, q3⟩ := d3 r hr
      have hlt := (Array.getElem?_eq_some_iff.1 q2).1
      refine ⟨q1, ?_, fun e he heq => ?_⟩
      · rw [old_get _ _ hlt]; exact q2
      · rcases List.mem_append.1 he with he | he
        · exact q3 e he heq
        · simp at he; subst he; simp at heq; omega
    obtain ⟨d, f', args, t1, t2, t3⟩ := laid c { state := .ready, pending := none, fn, tmps := a.tmps, params := ps, assign := as, body, defers := r0.defers } rfl rfl rfl rfl rfl rfl (Cfg.Le.refl c) hs a.defers hd' hB hr
    exact ⟨_, _, _, d, _, f', args, _, run_enterLoop_in hr0 fn a.tmps ps as body, t1, (fun _ _ => trivial), t2, (fun h => by cases h), callsIn_fw t3⟩

end Go.Tl
