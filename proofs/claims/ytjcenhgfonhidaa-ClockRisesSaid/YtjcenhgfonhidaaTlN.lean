/- Regions that draw their order: the plan, what is checked of it, and that it is enough. -/
import Derived.Test.YtjcenhgfonhidaaTlM
namespace Go.Tl
open Go.RowKit

def edgesB (o : Oper) : List Nat := (o.after.toList.filter (Region.binds .any)).map (·.on)

def maskOf (C : List Nat) (o : Oper) : Nat := (edgesB o).foldl (fun m e => m ||| 2 ^ e ||| C.getD e 0) 0

/-- Whom each operation waits for, all the way down (bit by bit). -/
def masks (ops : Array Oper) : List Nat := ops.toList.foldl (fun C o => C ++ [maskOf C o]) []

def anc (C : List Nat) (i k : Nat) : Bool := (C.getD i 0).testBit k

def opd (ops : Array Oper) (i : Nat) : Oper := (ops[i]?).getD default

def certB (ops : Array Oper) (C : List Nat) : Bool := (List.range ops.size).all fun i => ((edgesB (opd ops i)).all fun e => decide (e < i)) && (List.range ops.size).all fun k => !anc C i k || (edgesB (opd ops i)).contains k || (edgesB (opd ops i)).any fun e => anc C e k

/-- 'f' comes earlier in the plan and floats; 'i' comes later. -/
def pairB (ops : Array Oper) (C : List Nat) (f i : Nat) : Bool :=
  !flt (opd ops f) || (match (opd ops f).dst with
    | none => false
    | some d => (opd ops i).dst != some d && (!((opd ops i).looksAt ops).contains d || anc C i f)) && (match (opd ops i).dst with
    | none => true
    | some d => !((opd ops f).looksAt ops).contains d)

def selfB (ops : Array Oper) (i : Nat) : Bool := match (opd ops i).dst with
  | none => true
  | some d => !((opd ops i).looksAt ops).contains d

def walkB (ops : Array Oper) (C : List Nat) : (done seg : List Nat) → Bool → List (Nat × List Nat) → Bool
  | _, _, _, [] => true
  | done, seg, hasH, (i, pend) :: rest =>
    decide (i < ops.size) && !done.contains i && done.all (fun f => pairB ops C f i) && selfB ops i &&
    (!hasH || (edgesB (opd ops i)).any seg.contains) &&
    (if flt (opd ops i) then pend.isEmpty else done.all fun f => !flt (opd ops f) || anc C i f || still (opd ops f) || pend.contains f) &&
    walkB ops C (i :: done) (if flt (opd ops i) then i :: seg else [i]) (hasH || !flt (opd ops i)) rest

def planB (ops : Array Oper) (pl : List (Nat × List Nat)) : Bool :=
  certB ops (masks ops) && (pl.length == ops.size) && ((List.range ops.size).all fun i => (pl.map (·.1)).contains i) && walkB ops (masks ops) [] [] false pl

/-- The floats that may still wait answer now what they answered. -/
def Stay1 (G : Prg) (ops : Array Oper) (env : List AV) (σ : Heap) (f : Nat) : Prop := match floatA G ops (opd ops f) env σ with
  | some y => (opd ops f).dst.bind (env[·]?) = some y
  | none => False

def Stay (G : Prg) (ops : Array Oper) (env : List AV) (σ : Heap) : List Nat → Prop → Prop
  | [], X => X
  | f :: fs, X => Stay1 G ops env σ f ∧ Stay G ops env σ fs X

theorem Stay.out {G : Prg} {ops : Array Oper} {env : List AV} {σ : Heap} {X : Prop} : ∀ {l : List Nat}, Stay G ops env σ l X → X ∧ ∀ f ∈ l, Stay1 G ops env σ f
  | [], h => ⟨h, fun f hf => by cases hf⟩
  | g :: l, h => by
    obtain ⟨h1, h2⟩ := h
    obtain ⟨h3, h4⟩ := h2.out
    refine ⟨h3, fun f hf => ?_⟩
    rcases List.mem_cons.1 hf with rfl | hf
    · exact h1
    · exact h4 f hf

def DrawRun (G : Prg) (ops : Array Oper) : List (Nat × List Nat) → List AV → Heap → (List AV → Heap → Prop) → Prop
  | [], env, σ, K => K env σ
  | (i, pend) :: rest, env, σ, K => WantA ops (opd ops i) env
      (OpRun G (opd ops i) env σ fun x σ' => Stay G ops (putA env (opd ops i).dst x) σ' pend (DrawRun G ops rest (putA env (opd ops i).dst x) σ' K))
      (DrawRun G ops rest (putA env (opd ops i).dst (.tup [])) σ K)

/-! ### Who is listed -/
theorem opd_get {ops : Array Oper} {i : Nat} (h : i < ops.size) : ops[i]? = some (opd ops i) := by
  simp [opd, h]

structure Up (ops : Array Oper) (un : Nat → Prop) : Prop where
  up : ∀ i, i < ops.size → ¬ un i → ∀ e ∈ edgesB (opd ops i), ¬ un e

theorem cert_edge {ops : Array Oper} {C : List Nat} (hc : certB ops C = true) {i : Nat} (hi : i < ops.size) : (∀ e ∈ edgesB (opd ops i), e < i) ∧ ∀ k, k < ops.size → anc C i k = true → k ∈ edgesB (opd ops i) ∨ ∃ e ∈ edgesB (opd ops i), anc C e k = true := by
  unfold certB at hc
  have h := List.all_eq_true.1 hc i (List.mem_range.2 hi)
  simp only [Bool.and_eq_true] at h
  refine ⟨fun e he => by simpa using List.all_eq_true.1 h.1 e he, fun k hk ha => ?_⟩
  have := List.all_eq_true.1 h.2 k (List.mem_range.2 hk)
  simp only [ha, Bool.not_true, Bool.false_or, Bool.or_eq_true] at this
  rcases this with h | h
  · exact .inl (by simpa using h)
  · obtain ⟨e, he, h⟩ := List.any_eq_true.1 h
    exact .inr ⟨e, he, h⟩

theorem anc_listed {ops : Array Oper} {C : List Nat} (hc : certB ops C = true) {un : Nat → Prop} (hu : Up ops un) {k : Nat} (hk : k < ops.size) : ∀ i, i < ops.size → (∀ e ∈ edgesB (opd ops i), ¬ un e) → anc C i k = true → ¬ un k := by
  intro i
  induction i using Nat.strongRecOn with
  | _ i ih =>
    intro hi he ha
    obtain ⟨h1, h2⟩ := cert_edge hc hi
    rcases h2 k hk ha with h | ⟨e, hee, h⟩
    · exact he k h
    · have hlt := h1 e hee
      exact ih e hlt (by omega) (fun e' he' => hu.up e (by omega) (he e hee) e' he') h

/-- Where someone is not listed, someone is ready. -/
theorem some_ready {ops : Array Oper} {C : List Nat} (hc : certB ops C = true) {un : Nat → Prop} : ∀ i, i < ops.size → un i → ∃ k, k < ops.size ∧ un k ∧ ∀ e ∈ edgesB (opd ops k), ¬ un e := by
  intro i
  induction i using Nat.strongRecOn with
  | _ i ih =>
    intro hi hun
    by_cases h : ∃ e ∈ edgesB (opd ops i), un e
    · obtain ⟨e, he, hu⟩ := h
      have := (cert_edge hc hi).1 e he
      exact ih e this (by omega) hu
    · exact ⟨i, hi, hun, fun e he hu => h ⟨e, he, hu⟩⟩

/-! ### The plan's pairs -/
structure PairOk (ops : Array Oper) (C : List Nat) (f i : Nat) : Prop where
  fi : ∀ d, (opd ops f).dst = some d → d ∈ (opd ops i).looksAt ops → anc C i f = true
  ne : ∀ d, (opd ops f).dst = some d → (opd ops i).dst ≠ some d
  fd : ∀ d, (opd ops i).dst = some d → d ∉ (opd ops f).looksAt ops

theorem pair_ok {ops : Array Oper} {C : List Nat} {f i : Nat} (hf : flt (opd ops f) = true) (h : pairB ops C f i = true) : PairOk ops C f i := by
  unfold pairB at h
  simp only [hf, Bool.not_true, Bool.false_or, Bool.and_eq_true] at h
  obtain ⟨h1, h2⟩ := h
  refine ⟨fun d hd hm => ?_, fun d hd => ?_, fun d hd => ?_⟩
  · simp only [hd, Bool.and_eq_true, Bool.or_eq_true, Bool.not_eq_true'] at h1
    rcases h1.2 with h | h
    · simp [hm] at h
    · exact h
  · simp only [hd, Bool.and_eq_true] at h1
    simpa using h1.1
  · simp only [hd] at h2
    simpa using h2

theorem self_ok {ops : Array Oper} {i : Nat} (h : selfB ops i = true) : ∀ d, (opd ops i).dst = some d → d ∉ (opd ops i).looksAt ops := fun d hd => by
  simp only [selfB, hd] at h
  simpa using h

theorem walk_seg {ops : Array Oper} {C : List Nat} : ∀ (S : List (Nat × List Nat)) (done seg : List Nat), walkB ops C done seg true S = true → ∀ i ∈ S.map (·.1), ∃ e ∈ edgesB (opd ops i), e ∈ seg ∨ e ∈ S.map (·.1)
  | [], _, _, _ => fun i hi => by simp at hi
  | (j, pend) :: S, done, seg, h => fun i hi => by
    simp only [walkB, Bool.and_eq_true, Bool.not_true, Bool.false_or, Bool.true_or] at h
    obtain ⟨⟨⟨_, h5⟩, _⟩, h7⟩ := h
    simp only [List.map_cons, List.mem_cons] at hi
    rcases hi with rfl | hi
    · obtain ⟨e, he, hs⟩ := List.any_eq_true.1 h5
      exact ⟨e, he, .inl (by simpa using hs)⟩
    · obtain ⟨e, he, h⟩ := walk_seg S _ _ h7 i hi
      refine ⟨e, he, ?_⟩
      rcases h with h | h
      · split at h
        · rcases List.mem_cons.1 h with rfl | h
          · exact .inr (by simp)
          · exact .inl h
        · simp at h; subst h; exact .inr (by simp)
      · exact .inr (by simp only [List.map_cons, List.mem_cons]; exact .inr h)

theorem putA_get_ne {env : List AV} {dst : Option Nat} {x : AV} {t : Nat} (h : dst ≠ some t) : (putA env dst x)[t]? = env[t]? := by
  cases dst with
  | none => rfl
  | some d => exact List.getElem?_set_ne (fun e => h (by rw [e]))

theorem putA_get_eq {env env' : List AV} (hl : env.length = env'.length) {dst : Option Nat} {x : AV} {t : Nat} (h : env[t]? = env'[t]?) : (putA env dst x)[t]? = (putA env' dst x)[t]? := by
  cases dst with
  | none => exact h
  | some d =>
    simp only [putA]
    by_cases hd : d = t
    · subst hd
      simp only [List.getElem?_set, if_true, hl]
    · rw [List.getElem?_set_ne hd, List.getElem?_set_ne hd, h]

theorem putA_len {env : List AV} {dst : Option Nat} {x : AV} : (putA env dst x).length = env.length := by
  cases dst <;> simp [putA]

/-! ### That one order stands for all -/
structure St (G : Prg) (ops : Array Oper) (C : List Nat) (K : List AV → Heap → Prop) (env ens : List AV) (σ : Heap) (U : List Nat) (S : List (Nat × List Nat)) (done seg : List Nat) (hasH : Bool) (listed : Array Bool) (fuel : Nat) : Prop where
  un : ∀ i, i < ops.size → (listed.getD i true = false ↔ i ∈ U ∨ i ∈ S.map (·.1))
  size : listed.size = ops.size
  nd : U.Nodup
  ns : ∀ i ∈ U, i ∉ S.map (·.1)
  nS : (S.map (·.1)).Nodup
  fuel : fuel = U.length + S.length
  up : Up ops (fun i => i ∈ U ∨ i ∈ S.map (·.1))
  walk : walkB ops C done seg hasH S = true
  udone : ∀ f ∈ U, f ∈ done
  ult : ∀ f ∈ U, f < ops.size ∧ flt (opd ops f) = true ∧ selfB ops f = true
  upair : ∀ f ∈ U, ∀ g ∈ U, f ≠ g → PairOk ops C f g ∨ PairOk ops C g f
  len : env.length = ens.length
  agree : ∀ t, (∀ f ∈ U, (opd ops f).dst ≠ some t) → env[t]? = ens[t]?
  val : ∀ f ∈ U, ∃ d y, (opd ops f).dst = some d ∧ floatA G ops (opd ops f) ens σ = some y ∧ (d < ens.length → ens[d]? = some y)
  run : DrawRun G ops S ens σ K

theorem flt_dst {o : Oper} (h : flt o = true) : ∃ d, o.dst = some d := by
  unfold flt at h
  apply Option.isSome_iff_exists.1
  split at h <;> first | exact h | (simp at h; exact h.1) | cases h

theorem walk_head {ops : Array Oper} {C : List Nat} {done seg : List Nat} {hasH : Bool} {j : Nat} {pend : List Nat} {S : List (Nat × List Nat)} (h : walkB ops C done seg hasH ((j, pend) :: S) = true) :
    j < ops.size ∧ j ∉ done ∧ (∀ f ∈ done, pairB ops C f j = true) ∧ selfB ops j = true ∧
    (if flt (opd ops j) then pend.isEmpty else done.all fun f => !flt (opd ops f) || anc C j f || still (opd ops f) || pend.contains f) = true ∧
    walkB ops C (j :: done) (if flt (opd ops j) then j :: seg else [j]) (hasH || !flt (opd ops j)) S = true := by
  simp only [walkB, Bool.and_eq_true] at h
  obtain ⟨⟨⟨⟨⟨⟨h1, h2⟩, h3⟩, h4⟩, h5⟩, h6⟩, h7⟩ := h
  refine ⟨by simpa using h1, by simpa using h2, fun f hf => List.all_eq_true.1 h3 f hf, h4, h6, h7⟩

/-- A float at the head of the plan joins those that wait. -/
theorem St.adv {G : Prg} {ops : Array Oper} {C : List Nat} {K : List AV → Heap → Prop} {env ens : List AV} {σ : Heap} {U : List Nat} {j : Nat} {pend : List Nat} {S : List (Nat × List Nat)} {done seg : List Nat} {hasH : Bool} {listed : Array Bool} {fuel : Nat}
    (h : St G ops C K env ens σ U ((j, pend) :: S) done seg hasH listed fuel) (hf : flt (opd ops j) = true) : ∃ ens', St G ops C K env ens' σ (U ++ [j]) S (j :: done) (j :: seg) hasH listed fuel := by
  obtain ⟨w1, w2, w3, w4, w5, w6⟩ := walk_head h.walk
  simp only [hf, if_true] at w5 w6
  obtain rfl : pend = [] := by simpa using w5
  obtain ⟨d, hd⟩ := flt_dst hf
  have hrun := h.run
  simp only [DrawRun, Stay] at hrun
  obtain ⟨x, hx, hr⟩ := wantA_flt (K := fun x s => DrawRun G ops S (putA ens (opd ops j).dst x) s K) hf (fun hy => hy) hrun
  have hjU : j ∉ U := fun hm => h.ns j hm (by simp)
  have hpair : ∀ f ∈ U, PairOk ops C f j := fun f hm => pair_ok (h.ult f hm).2.1 (w3 f (h.udone f hm))
  have hoff : ∀ f, (∀ t ∈ (opd ops f).looksAt ops, t ≠ d) → floatA G ops (opd ops f) (putA ens (opd ops j).dst x) σ = floatA G ops (opd ops f) ens σ := fun f hm =>
    floatA_off fun t ht => putA_get_ne (by rw [hd]; exact fun e => hm t ht (by cases e; rfl))
  refine ⟨putA ens (opd ops j).dst x, ?_⟩
  have hmem : ∀ i, (i ∈ U ++ [j] ∨ i ∈ S.map (·.1)) ↔ (i ∈ U ∨ i ∈ ((j, []) :: S).map (·.1)) := fun i => by
    simp only [List.mem_append, List.mem_cons, List.map_cons, or_assoc, List.not_mem_nil, false_or]
  exact {
    un := fun i hi => by rw [h.un i hi, hmem]
    size := h.size
    nd := by
      rw [List.nodup_append]
      refine ⟨h.nd, by simp, fun a ha b hb => ?_⟩
      simp at hb; subst hb
      exact fun e => hjU (e ▸ ha)
    ns := fun i hi => by
      rcases List.mem_append.1 hi with hi | hi
      · exact fun hm => h.ns i hi (by simp only [List.map_cons, List.mem_cons]; exact .inr hm)
      · simp at hi; subst hi
        exact (List.nodup_cons.1 h.nS).1
    nS := (List.nodup_cons.1 h.nS).2
    fuel := by rw [h.fuel]; simp; omega
    up := ⟨fun i hi hn e he => by rw [hmem] at hn ⊢; exact h.up.up i hi hn e he⟩
    walk := by simpa using w6
    udone := fun f hm => by
      rcases List.mem_append.1 hm with hm | hm
      · exact List.mem_cons_of_mem _ (h.udone f hm)
      · simp at hm; subst hm; exact List.mem_cons_self ..
    ult := fun f hm => by
      rcases List.mem_append.1 hm with hm | hm
      · exact h.ult f hm
      · simp at hm; subst hm; exact ⟨w1, hf, w4⟩
    upair := fun f hm g hg hne => by
      rcases List.mem_append.1 hm with m1 | m1 <;> rcases List.mem_append.1 hg with m2 | m2
      · exact h.upair f m1 g m2 hne
      · simp at m2; subst m2; exact .inl (hpair f m1)
      · simp at m1; subst m1; exact .inr (hpair g m2)
      · simp at m1 m2; exact absurd (m1.trans m2.symm) hne
    len := by rw [putA_len]; exact h.len
    agree := fun t ht => by
      rw [putA_get_ne (ht j (by simp))]
      exact h.agree t fun f hm => ht f (by simp [hm])
    val := fun f hm => by
      rcases List.mem_append.1 hm with hm | hm
      · obtain ⟨e, y, h1, h2, h3⟩ := h.val f hm
        have hp := hpair f hm
        refine ⟨e, y, h1, ?_, ?_⟩
        · rw [hoff f fun t ht e => hp.fd d hd (e ▸ ht)]; exact h2
        · rw [putA_len, putA_get_ne (hp.ne e h1)]; exact h3
      · simp at hm; subst hm
        refine ⟨d, x, hd, ?_, ?_⟩
        · rw [hoff f fun t ht e => self_ok w4 d hd (e ▸ ht)]; exact hx
        · rw [putA_len, hd]; intro hlt; simp only [putA]; rw [List.getElem?_set_self hlt]
    run := hr }

theorem edge_mem {o : Oper} {e : Nat} : e ∈ edgesB o ↔ ∃ x ∈ o.after, Region.binds .any x = true ∧ x.on = e := by
  simp only [edgesB, List.mem_map, List.mem_filter, Array.mem_toList_iff]
  exact ⟨fun ⟨x, ⟨h1, h2⟩, h3⟩ => ⟨x, h1, h2, h3⟩, fun ⟨x, h1, h2, h3⟩ => ⟨x, ⟨h1, h2⟩, h3⟩⟩

theorem getD_true {l : Array Bool} {i : Nat} (h : l.getD i false = true) : l.getD i true = true := by
  simp only [Array.getD_eq_getD_getElem?] at *
  cases hq : l[i]? with
  | none => rfl
  | some b => rw [hq] at h; exact h

theorem getD_false {l : Array Bool} {i : Nat} (hi : i < l.size) (h : ¬ l.getD i true = false) : l.getD i false = true := by
  simp only [Array.getD_eq_getD_getElem?, Array.getElem?_eq_getElem hi, Option.getD_some, Bool.not_eq_false] at *
  exact h

theorem getD_set {l : Array Bool} {i j : Nat} (hi : i < l.size) : (l.setIfInBounds i true).getD j true = false ↔ (j ≠ i ∧ l.getD j true = false) := by
  simp only [Array.getD_eq_getD_getElem?]
  by_cases h : i = j
  · subst h; simp [Array.getElem?_setIfInBounds_self_of_lt hi]
  · rw [Array.getElem?_setIfInBounds_ne h]
    exact ⟨fun h' => ⟨fun e => h e.symm, h'⟩, fun h' => h'.2⟩

/-- What is ready, of what is not yet done. -/
theorem St.ready {G : Prg} {ops : Array Oper} {C : List Nat} {K : List AV → Heap → Prop} {env ens : List AV} {σ : Heap} {U : List Nat} {S : List (Nat × List Nat)} {done seg : List Nat} {hasH : Bool} {listed : Array Bool} {fuel : Nat}
    (hc : certB ops C = true) (h : St G ops C K env ens σ U S done seg hasH listed fuel) (i : Nat) : i ∈ Region.ready .any ops listed ↔ i < ops.size ∧ (i ∈ U ∨ i ∈ S.map (·.1)) ∧ ∀ e ∈ edgesB (opd ops i), ¬ (e ∈ U ∨ e ∈ S.map (·.1)) := by
  rw [mem_ready]
  constructor
  · rintro ⟨h1, o, h2, h3⟩
    have hi : i < ops.size := (Array.getElem?_eq_some_iff.1 h2).1
    have ho : o = opd ops i := by simp [opd, h2]
    subst ho
    refine ⟨hi, (h.un i hi).1 h1, fun e he hu => ?_⟩
    obtain ⟨x, hx, hb, rfl⟩ := edge_mem.1 he
    have hl := getD_true (h3 x hx hb)
    have hlt : x.on < ops.size := by
      have := h3 x hx hb
      simp only [Array.getD_eq_getD_getElem?] at this
      rcases Nat.lt_or_ge x.on listed.size with hh | hh
      · rw [← h.size]; exact hh
      · rw [Array.getElem?_eq_none hh] at this; cases this
    rw [(h.un _ hlt).2 hu] at hl
    cases hl
  · rintro ⟨hi, h1, h2⟩
    refine ⟨(h.un i hi).2 h1, opd ops i, opd_get hi, fun x hx hb => ?_⟩
    have hn := h2 x.on (edge_mem.2 ⟨x, hx, hb, rfl⟩)
    have hlt : x.on < ops.size := Nat.lt_trans ((cert_edge hc hi).1 _ (edge_mem.2 ⟨x, hx, hb, rfl⟩)) hi
    exact getD_false (by rw [h.size]; exact hlt) (fun hf => hn ((h.un _ hlt).1 hf))

/-- One step: whoever is ready. -/
theorem any_step {G : Prg} {ops : Array Oper} {C : List Nat} (hc : certB ops C = true) {ro : Option Nat} {Q : Exit → Act → World → Prop} {K : List AV → Heap → Prop} {c0 : Cfg} {dfs : List Deferred}
    (hk : ∀ c' env' σ' a', c0.Le c' → Sim c' σ' → RepL c'.M c'.L env' a'.tmps → a'.defers = dfs → K env' σ' → Q .normal a' c'.w) {fuel : Nat}
    (ih : ∀ (S : List (Nat × List Nat)) (U done seg : List Nat) (hasH : Bool) (env ens : List AV) (σ : Heap) (listed : Array Bool) (c : Cfg) (a : Act), St G ops C K env ens σ U S done seg hasH listed fuel →
      c0.Le c → GOk G c.M → Sim c σ → RepL c.M c.L env a.tmps → a.defers = dfs → wpAnyIn (Fw ro) 0 G.P .any ops Q fuel listed a c.w)
    (S : List (Nat × List Nat)) (U done seg : List Nat) (hasH : Bool) (env ens : List AV) (σ : Heap) (listed : Array Bool) (c : Cfg) (a : Act)
    (hS : S = [] ∨ ∃ j pend S', S = (j, pend) :: S' ∧ flt (opd ops j) = false)
    (h : St G ops C K env ens σ U S done seg hasH listed (fuel + 1)) (hle : c0.Le c) (hG : GOk G c.M) (hs : Sim c σ) (he : RepL c.M c.L env a.tmps) (hd : a.defers = dfs) : wpAnyIn (Fw ro) 0 G.P .any ops Q (fuel + 1) listed a c.w := by
  have hput : ∀ (o : Oper) v, (a.put o.dst v).defers = a.defers := fun o v => by cases o.dst <;> rfl
  refine ⟨fun hr => ?_, fun i hi => ?_⟩
  · exfalso
    have hex : ∃ i, i < ops.size ∧ (i ∈ U ∨ i ∈ S.map (·.1)) := by
      cases U with
      | cons i U => exact ⟨i, (h.ult i (by simp)).1, .inl (by simp)⟩
      | nil =>
        cases S with
        | nil => have := h.fuel; simp at this
        | cons jp S => exact ⟨jp.1, (walk_head h.walk).1, .inr (by simp)⟩
    obtain ⟨i, hi, hu⟩ := hex
    obtain ⟨k, h1, h2, h3⟩ := some_ready hc (un := fun i => i ∈ U ∨ i ∈ S.map (·.1)) i hi hu
    have := (h.ready hc k).2 ⟨h1, h2, h3⟩
    rw [hr] at this
    cases this
  · obtain ⟨hlt, hmem, hedge⟩ := (h.ready hc i).1 hi
    have hlisted : ∀ k, k < ops.size → anc C i k = true → ¬ (k ∈ U ∨ k ∈ S.map (·.1)) := fun k hk ha => anc_listed hc h.up hk i hlt hedge ha
    have hil : i < listed.size := by rw [h.size]; exact hlt
    by_cases hU : i ∈ U
    · -- a float that waited
      obtain ⟨d, y, hdst, hval, hset⟩ := h.val i hU
      have hfl := (h.ult i hU).2.1
      have hiS := h.ns i hU
      have hoff : ∀ t ∈ (opd ops i).looksAt ops, env[t]? = ens[t]? := fun t ht => h.agree t fun f hf hdf => by
        by_cases hfi : f = i
        · subst hfi; exact self_ok (h.ult f hf).2.2 t hdf ht
        · rcases h.upair f hf i hU hfi with hp | hp
          · exact hlisted f (h.ult f hf).1 (hp.fi t hdf ht) (.inl hf)
          · exact hp.fd t hdf ht
      have hw := wantA_of_flt (K := fun x s => s = σ ∧ x = y) hfl ((floatA_off hoff).trans hval) ⟨rfl, rfl⟩
      have hnext : ∀ (c' : Cfg) (v : Value), c.Le c' → Sim c' σ → c'.rep y v → wpAnyIn (Fw ro) 0 G.P .any ops Q fuel (listed.setIfInBounds i true) (a.put (opd ops i).dst v) c'.w := fun c' v q1 q2 q3 => by
        refine ih S (U.erase i) done seg hasH (putA env (opd ops i).dst y) ens σ _ c' _ ?_ (hle.trans q1) (GOk.mono q1.mem hG) q2 (putA_rep (RepL.mono q1 he) q3) (by rw [hput]; exact hd)
        have hmem' : ∀ k, (k ∈ U.erase i ∨ k ∈ S.map (·.1)) ↔ (k ≠ i ∧ (k ∈ U ∨ k ∈ S.map (·.1))) := fun k => by
          rw [h.nd.mem_erase_iff]
          constructor
          · rintro (⟨h1, h2⟩ | h1)
            · exact ⟨h1, .inl h2⟩
            · exact ⟨fun e => hiS (e ▸ h1), .inr h1⟩
          · rintro ⟨h1, h2 | h2⟩
            · exact .inl ⟨h1, h2⟩
            · exact .inr h2
        exact {
          un := fun k hk => by rw [getD_set hil, h.un k hk, hmem']
          size := by rw [Array.size_setIfInBounds]; exact h.size
          nd := h.nd.erase i
          ns := fun k hk => h.ns k (List.mem_of_mem_erase hk)
          nS := h.nS
          fuel := by have := h.fuel; rw [List.length_erase_of_mem hU]; have := List.length_pos_of_mem hU; omega
          up := ⟨fun k hk hn e hee hu => by
            rw [hmem'] at hu
            by_cases hki : k = i
            · subst hki; exact hedge e hee hu.2
            · exact h.up.up k hk (fun hm => hn ((hmem' k).2 ⟨hki, hm⟩)) e hee hu.2⟩
          walk := h.walk
          udone := fun f hf => h.udone f (List.mem_of_mem_erase hf)
          ult := fun f hf => h.ult f (List.mem_of_mem_erase hf)
          upair := fun f hf g hg => h.upair f (List.mem_of_mem_erase hf) g (List.mem_of_mem_erase hg)
          len := by rw [putA_len]; exact h.len
          agree := fun t ht => by
            by_cases htd : d = t
            · subst htd
              rw [hdst]
              simp only [putA]
              rcases Nat.lt_or_ge d env.length with hlt | hge
              · rw [List.getElem?_set_self hlt, hset (by rw [← h.len]; exact hlt)]
              · rw [List.getElem?_eq_none (by simpa using hge), List.getElem?_eq_none (by rw [← h.len]; exact hge)]
            · rw [putA_get_ne (by rw [hdst]; exact fun e => htd (by cases e; rfl))]
              refine h.agree t fun f hf hdf => ?_
              by_cases hfi : f = i
              · subst hfi; rw [hdst] at hdf; cases hdf; exact htd rfl
              · exact ht f (h.nd.mem_erase_iff.2 ⟨hfi, hf⟩) hdf
          val := fun f hf => h.val f (List.mem_of_mem_erase hf)
          run := h.run }
      unfold wpOpIn
      simp only [opd_get hlt]
      have hw := want_ok hw he
      split at hw
      · rename_i hwt
        rw [if_pos hwt]
        refine op_ok hw hG hs he (fun c' x v σ' h1 h2 h3 h4 => ?_)
        obtain ⟨rfl, rfl⟩ := h4
        exact hnext c' v h1 h2 h3
      · rename_i hwt
        rw [if_neg hwt]
        refine ⟨fun _ _ => trivial, ?_⟩
        obtain ⟨_, rfl⟩ := hw
        exact hnext c undef (Cfg.Le.refl c) hs (.tup rfl (fun i h => by cases h))
    · -- the plan's head
      have hiS : i ∈ S.map (·.1) := hmem.resolve_left hU
      rcases hS with rfl | ⟨j, pend, S', rfl, hjf⟩
      · cases hiS
      · obtain ⟨w1, w2, w3, w4, w5, w6⟩ := walk_head h.walk
        simp only [hjf, Bool.false_eq_true, if_false, Bool.not_false, Bool.or_true] at w5 w6
        have hij : i = j := by
          simp only [List.map_cons, List.mem_cons] at hiS
          rcases hiS with hiS | hiS
          · exact hiS
          · exfalso
            obtain ⟨e, hee, hm⟩ := walk_seg S' _ _ w6 i hiS
            refine hedge e hee (.inr ?_)
            simp only [List.map_cons, List.mem_cons]
            rcases hm with hm | hm
            · simp at hm; exact .inl hm
            · exact .inr hm
        subst hij
        have hpair : ∀ f ∈ U, PairOk ops C f i := fun f hf => pair_ok (h.ult f hf).2.1 (w3 f (h.udone f hf))
        have hoff : ∀ t ∈ (opd ops i).looksAt ops, env[t]? = ens[t]? := fun t ht => h.agree t fun f hf hdf =>
          hlisted f (h.ult f hf).1 ((hpair f hf).fi t hdf ht) (.inl hf)
        have hw := h.run
        simp only [DrawRun] at hw
        rw [← wantA_off hoff, ← opRun_off hoff] at hw
        have hnS := List.nodup_cons.1 h.nS
        have hmem' : ∀ k, (k ∈ U ∨ k ∈ S'.map (·.1)) ↔ (k ≠ i ∧ (k ∈ U ∨ k ∈ ((i, pend) :: S').map (·.1))) := fun k => by
          simp only [List.map_cons, List.mem_cons]
          constructor
          · rintro (h1 | h1)
            · exact ⟨fun e => hU (e ▸ h1), .inl h1⟩
            · exact ⟨fun e => hnS.1 (e ▸ h1), .inr (.inr h1)⟩
          · rintro ⟨h1, h2 | h2 | h2⟩
            · exact .inl h2
            · exact absurd h2 h1
            · exact .inr h2
        have hfoff : ∀ f ∈ U, ∀ (x : AV) (s : Heap), floatA G ops (opd ops f) (putA ens (opd ops i).dst x) s = floatA G ops (opd ops f) ens s := fun f hf x s =>
          floatA_off fun t ht => putA_get_ne fun e => (hpair f hf).fd t e ht
        have hnext : ∀ (c' : Cfg) (x : AV) (v : Value) (s : Heap), c.Le c' → Sim c' s → c'.rep x v → DrawRun G ops S' (putA ens (opd ops i).dst x) s K →
            (∀ f ∈ U, ∃ d y, (opd ops f).dst = some d ∧ floatA G ops (opd ops f) (putA ens (opd ops i).dst x) s = some y ∧ (d < (putA ens (opd ops i).dst x).length → (putA ens (opd ops i).dst x)[d]? = some y)) →
            wpAnyIn (Fw ro) 0 G.P .any ops Q fuel (listed.setIfInBounds i true) (a.put (opd ops i).dst v) c'.w := fun c' x v s q1 q2 q3 q4 q5 => by
          refine ih S' U (i :: done) [i] true (putA env (opd ops i).dst x) (putA ens (opd ops i).dst x) s _ c' _ ?_ (hle.trans q1) (GOk.mono q1.mem hG) q2 (putA_rep (RepL.mono q1 he) q3) (by rw [hput]; exact hd)
          exact {
            un := fun k hk => by rw [getD_set hil, h.un k hk, hmem']
            size := by rw [Array.size_setIfInBounds]; exact h.size
            nd := h.nd
            ns := fun k hk hm => h.ns k hk (by simp only [List.map_cons, List.mem_cons]; exact .inr hm)
            nS := hnS.2
            fuel := by have := h.fuel; simp at this; omega
            up := ⟨fun k hk hn e hee hu => by
              rw [hmem'] at hu
              by_cases hki : k = i
              · subst hki; exact hedge e hee hu.2
              · exact h.up.up k hk (fun hm => hn ((hmem' k).2 ⟨hki, hm⟩)) e hee hu.2⟩
            walk := w6
            udone := fun f hf => List.mem_cons_of_mem _ (h.udone f hf)
            ult := h.ult
            upair := h.upair
            len := by rw [putA_len, putA_len]; exact h.len
            agree := fun t ht => putA_get_eq h.len (h.agree t ht)
            val := q5
            run := q4 }
        unfold wpOpIn
        simp only [opd_get hlt]
        have hw := want_ok hw he
        split at hw
        · rename_i hwt
          rw [if_pos hwt]
          refine op_ok hw hG hs he (fun c' x v σ' h1 h2 h3 h4 => ?_)
          obtain ⟨h4, h5⟩ := h4.out
          refine hnext c' x v σ' h1 h2 h3 h4 fun f hf => ?_
          obtain ⟨d, y, k1, k2, k3⟩ := h.val f hf
          have hp := List.all_eq_true.1 w5 f (h.udone f hf)
          simp only [(h.ult f hf).2.1, Bool.not_true, Bool.false_or, Bool.or_eq_true] at hp
          rcases hp with (hp | hp) | hp
          · exact absurd (.inl hf) (hlisted f (h.ult f hf).1 hp)
          · refine ⟨d, y, k1, ?_, ?_⟩
            · rw [hfoff f hf, floatA_still hp (σ' := σ)]; exact k2
            · rw [putA_len, putA_get_ne ((hpair f hf).ne d k1)]; exact k3
          · have hst := h5 f (by simpa using hp)
            unfold Stay1 at hst
            split at hst
            · rename_i z hz
              refine ⟨d, z, k1, hz, fun _ => ?_⟩
              rw [k1] at hst
              exact hst
            · cases hst
        · rename_i hwt
          rw [if_neg hwt]
          refine ⟨fun _ _ => trivial, ?_⟩
          refine hnext c (.tup []) undef σ (Cfg.Le.refl c) hs (.tup rfl (fun i h => by cases h)) hw fun f hf => ?_
          obtain ⟨d, y, k1, k2, k3⟩ := h.val f hf
          refine ⟨d, y, k1, ?_, ?_⟩
          · rw [hfoff f hf]; exact k2
          · rw [putA_len, putA_get_ne ((hpair f hf).ne d k1)]; exact k3

theorem any_ok {G : Prg} {ops : Array Oper} {C : List Nat} (hc : certB ops C = true) {ro : Option Nat} {Q : Exit → Act → World → Prop} {K : List AV → Heap → Prop} {c0 : Cfg} {dfs : List Deferred}
    (hk : ∀ c' env' σ' a', c0.Le c' → Sim c' σ' → RepL c'.M c'.L env' a'.tmps → a'.defers = dfs → K env' σ' → Q .normal a' c'.w) :
    ∀ (fuel : Nat) (S : List (Nat × List Nat)) (U done seg : List Nat) (hasH : Bool) (env ens : List AV) (σ : Heap) (listed : Array Bool) (c : Cfg) (a : Act), St G ops C K env ens σ U S done seg hasH listed fuel →
      c0.Le c → GOk G c.M → Sim c σ → RepL c.M c.L env a.tmps → a.defers = dfs → wpAnyIn (Fw ro) 0 G.P .any ops Q fuel listed a c.w := by
  intro fuel
  induction fuel with
  | zero =>
    intro S U done seg hasH env ens σ listed c a h hle hG hs he hd
    have hU : U = [] := List.eq_nil_of_length_eq_zero (by have := h.fuel; omega)
    have hS : S = [] := List.eq_nil_of_length_eq_zero (by have := h.fuel; omega)
    subst hU; subst hS
    refine ⟨?_, ?_⟩
    · cases hr : Region.ready .any ops listed with
      | nil => rfl
      | cons i l =>
        have := (h.ready hc i).1 (by rw [hr]; exact List.mem_cons_self ..)
        rcases this.2.1 with h | h <;> cases h
    · have henv : env = ens := List.ext_getElem? fun t => h.agree t fun f hf => by cases hf
      subst henv
      exact hk c env σ a hle hs he hd h.run
  | succ fuel ih =>
    intro S
    induction S with
    | nil =>
      intro U done seg hasH env ens σ listed c a h hle hG hs he hd
      exact any_step hc hk ih [] U done seg hasH env ens σ listed c a (.inl rfl) h hle hG hs he hd
    | cons jp S ihS =>
      intro U done seg hasH env ens σ listed c a h hle hG hs he hd
      obtain ⟨j, pend⟩ := jp
      cases hf : flt (opd ops j) with
      | true =>
        obtain ⟨ens', h'⟩ := h.adv hf
        exact ihS _ _ _ _ _ _ _ _ _ _ h' hle hG hs he hd
      | false => exact any_step hc hk ih _ U done seg hasH env ens σ listed c a (.inr ⟨j, pend, S, rfl, hf⟩) h hle hG hs he hd

theorem walk_nodup {ops : Array Oper} {C : List Nat} : ∀ (S : List (Nat × List Nat)) (done seg : List Nat) (hasH : Bool), walkB ops C done seg hasH S = true → (S.map (·.1)).Nodup ∧ ∀ i ∈ S.map (·.1), i ∉ done
  | [], _, _, _, _ => ⟨by simp, fun i hi => by simp at hi⟩
  | (j, pend) :: S, done, seg, hasH, h => by
    obtain ⟨w1, w2, w3, w4, w5, w6⟩ := walk_head h
    obtain ⟨h1, h2⟩ := walk_nodup S _ _ _ w6
    simp only [List.map_cons]
    refine ⟨List.nodup_cons.2 ⟨fun hm => h2 j hm (List.mem_cons_self ..), h1⟩, fun i hi => ?_⟩
    rcases List.mem_cons.1 hi with rfl | hi
    · exact w2
    · exact fun hm => h2 i hi (List.mem_cons_of_mem _ hm)

theorem draw_ok {G : Prg} {id : Nat} {ops : Array Oper} {pl : List (Nat × List Nat)} (hp : planB ops pl = true) {env : List AV} {σ : Heap} {K : Exit → List AV → Heap → Prop} (h : DrawRun G ops pl env σ (K .normal)) : Run G (.region id ops true) env σ K := by
  intro ro B c a ⟨hG, hs, hr, he, hd, hB⟩
  simp only [planB, Bool.and_eq_true] at hp
  obtain ⟨⟨⟨p1, p2⟩, p3⟩, p4⟩ := hp
  have p2 : pl.length = ops.size := by simpa using p2
  obtain ⟨n1, n2⟩ := walk_nodup _ _ _ _ p4
  refine wpIn_region_any G.mix ?_
  have hle : c.Le ⟨c.M, c.L, { c.w with drawn := c.w.drawn + 1 }⟩ := ⟨fun _ _ _ h => h, Ents.le_refl _, Nat.le_refl _, fun _ _ _ => rfl, fun e h => .inl ⟨e, h, rfl⟩, fun _ _ h => absurd rfl h, rfl, rfl, fun _ r h => ⟨r, h, rfl⟩⟩
  have hs' : Sim ⟨c.M, c.L, { c.w with drawn := c.w.drawn + 1 }⟩ σ := ⟨hs.len, (fun b o v hM => hs.prot b o v hM), hs.lt, (fun id e k h1 h2 => hs.blk id e k h1 h2), hs.inj⟩
  refine any_ok (c0 := c) (dfs := a.defers) p1 (K := K .normal) (fun c' env' σ' a' q1 q2 q3 q4 q5 => ⟨c', env', σ', rfl, q1, q2, q3, by rw [q4]; exact hd.mono q1, q5⟩) ops.size pl [] [] [] false env env σ _ ⟨c.M, c.L, { c.w with drawn := c.w.drawn + 1 }⟩ a ?_ hle hG hs' he rfl
  exact {
    un := fun i hi => by
      have := List.all_eq_true.1 p3 i (List.mem_range.2 hi)
      simp only [Array.getD_eq_getD_getElem?, hi, Array.getElem?_replicate, if_true, Option.getD_some, true_iff]
      exact .inr (by simpa using this)
    size := by simp
    nd := by simp
    ns := fun i hi => by cases hi
    nS := n1
    fuel := by simp [p2]
    up := ⟨fun i hi hn => by
      have := List.all_eq_true.1 p3 i (List.mem_range.2 hi)
      exact absurd (.inr (by simpa using this)) hn⟩
    walk := p4
    udone := fun f hf => by cases hf
    ult := fun f hf => by cases hf
    upair := fun f hf => by cases hf
    len := rfl
    agree := fun t _ => rfl
    val := fun f hf => by cases hf
    run := h }

theorem WantA.mono {ops : Array Oper} {o : Oper} {env : List AV} {X Y X' Y' : Prop} (hx : X → X') (hy : Y → Y') (h : WantA ops o env X Y) : WantA ops o env X' Y' := by
  unfold WantA at *
  split at h
  · exact hx h
  · split at h
    · rename_i b hb
      revert h
      cases hq : (b == _) <;> simp only [Br_true, Br_false] <;> first | exact hx | exact hy
    · exact hy h
    · cases h

theorem OpRun.mono {G : Prg} {o : Oper} {env : List AV} {σ : Heap} {K K' : AV → Heap → Prop} (hk : ∀ x s, K x s → K' x s) (h : OpRun G o env σ K) : OpRun G o env σ K' := by
  unfold OpRun at *
  split at h
  · unfold CallA at *
    split at h
    · split at h
      · split at h
        · exact hk _ _ h
        · cases h
      · cases h
    · split at h
      · exact ⟨h.1, h.2.mono hk⟩
      · exact fun c v vs h1 h2 h3 h4 => by
          obtain ⟨l, f, tmps, as, body, q1, q2, q3⟩ := h c v vs h1 h2 h3 h4
          exact ⟨l, f, tmps, as, body, q1, q2, RoundIn.mono q3 fun e w' ⟨c', v, r, s, p1, p2, p3, p4, p5, p6⟩ => ⟨c', v, r, s, p1, p2, p3, p4, p5, hk _ _ p6⟩⟩
      · cases h
    · cases h
  · split at h
    · exact hk _ _ h
    · cases h

theorem drawRun_of_ops' {G : Prg} {ops : Array Oper} {K : List AV → Heap → Prop} : ∀ (is : List Nat) (env : List AV) (σ : Heap), OpsRun G ops (is.map (opd ops)) env σ K → DrawRun G ops (is.map (·, [])) env σ K
  | [], env, σ, h => h
  | i :: is, env, σ, h => by
    simp only [List.map_cons, OpsRun] at h
    simp only [List.map_cons, DrawRun, Stay]
    exact WantA.mono (fun h => OpRun.mono (fun x s h => drawRun_of_ops' is _ _ h) h) (fun h => drawRun_of_ops' is _ _ h) h

theorem range_opd (ops : Array Oper) : (List.range ops.size).map (opd ops) = ops.toList := by
  apply List.ext_getElem?
  intro i
  simp only [List.getElem?_map]
  by_cases hi : i < ops.size
  · simp [hi, opd]
  · simp [hi]

theorem drawRun_of_ops {G : Prg} {ops : Array Oper} {K : List AV → Heap → Prop} {env : List AV} {σ : Heap} (h : OpsRun G ops ops.toList env σ K) : DrawRun G ops ((List.range ops.size).map (·, [])) env σ K :=
  drawRun_of_ops' _ _ _ (by rw [range_opd]; exact h)

end Go.Tl
