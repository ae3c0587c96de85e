/- Regions that draw their order: the plan, what is checked of it, and that it is enough. -/
import Derived.Test.YtjcenhgfonhidaaTlM
namespace Go.Tl
open Go.RowKit

def edgesB (o : Oper) : List Nat := (o.after.toList.filter (Region.binds .any)).map (·.on)

def maskOf (C : List Nat) (o : Oper) : Nat := (edgesB o).foldl (fun m e => m ||| 2 ^ e ||| C.getD e 0) 0

/-- Whom each operation waits for, all the way down (bit by bit). -/
def masks (ops : Array Oper) : List Nat := ops.toList.foldl (fun C o => C ++ [maskOf C o]) []

def anc (C : List Nat) (i k : Nat) : Bool := (C.getD i 0).testBit k

def opd (ops : Array Oper) (i : Nat) : Oper := (ops[i]?).getD default

def certB (ops : Array Oper) (C : List Nat) : Bool := (List.range ops.size).all fun i => ((edgesB (opd ops i)).all fun e => decide (e < i)) && (List.range ops.size).all fun k => !anc C i k || (edgesB (opd ops i)).contains k || (edgesB (opd ops i)).any fun e => anc C e k

/-- 'f' comes earlier in the plan and floats; 'i' comes later. -/
def pairB (ops : Array Oper) (C : List Nat) (f i : Nat) : Bool :=
  !flt (opd ops f) || (match (opd ops f).dst with
    | none => false
    | some d => (opd ops i).dst != some d && (!((opd ops i).looksAt ops).contains d || anc C i f)) && (match (opd ops i).dst with
    | none => true
    | some d => !((opd ops f).looksAt ops).contains d)

def selfB (ops : Array Oper) (i : Nat) : Bool := match (opd ops i).dst with
  | none => true
  | some d => !((opd ops i).looksAt ops).contains d

/-- A plan's steps: an operation (and which floats may still wait); the announcement of an operation that lays a new block, which may happen from here on till its own step. -/
inductive PStep where
  | op (i : Nat) (pend : List Nat)
  | ann (i : Nat)

def opsOf : List PStep → List Nat
  | [] => []
  | .op i _ :: S => i :: opsOf S
  | .ann _ :: S => opsOf S

/-- Operations that lay a new block and do nothing else. -/
def fresh (o : Oper) : Bool := match o.op with
  | .alloc _ | .box _ _ | .buildSlice _ _ _ => o.guard.isNone && o.dst.isSome
  | _ => false

def annB (ops : Array Oper) (C : List Nat) (done : List Nat) (i : Nat) : Bool :=
  decide (i < ops.size) && fresh (opd ops i) && !done.contains i && (List.range ops.size).all fun g => match (opd ops g).dst with
    | none => true
    | some t => !((opd ops i).looksAt ops).contains t || (anc C i g && done.contains g)

/-- 'i' may happen ahead of its step: 'g', which comes earlier in the plan, does not see it. -/
def offB (ops : Array Oper) (g i : Nat) : Bool := match (opd ops i).dst with
  | none => false
  | some d => (opd ops g).dst != some d && !((opd ops g).looksAt ops).contains d

def walkB (ops : Array Oper) (C : List Nat) : (done seg : List Nat) → Bool → (pa an : List Nat) → List PStep → Bool
  | _, _, _, pa, _, [] => pa.isEmpty
  | done, seg, hasH, pa, an, .ann i :: rest =>
    annB ops C done i && !an.contains i && pa.isEmpty && (!hasH || (edgesB (opd ops i)).any seg.contains) && walkB ops C done seg hasH pa (i :: an) rest
  | done, seg, hasH, pa, an, .op i pend :: rest =>
    decide (i < ops.size) && !done.contains i && done.all (fun f => pairB ops C f i) && selfB ops i &&
    (if flt (opd ops i) then pend.isEmpty else done.all fun f => !flt (opd ops f) || anc C i f || still (opd ops f) || pend.contains f) &&
    (if an.contains i then done.all (fun g => offB ops g i) && !flt (opd ops i) && walkB ops C (i :: done) seg hasH (i :: pa) an rest
     else (!hasH || (edgesB (opd ops i)).any seg.contains) && (if flt (opd ops i) then pa.isEmpty else pa.all fun a => (edgesB (opd ops i)).contains a) &&
       walkB ops C (i :: done) (if flt (opd ops i) then i :: seg else [i]) (hasH || !flt (opd ops i)) [] an rest)

def planB (ops : Array Oper) (pl : List PStep) : Bool :=
  certB ops (masks ops) && ((opsOf pl).length == ops.size) && ((List.range ops.size).all fun i => (opsOf pl).contains i) && walkB ops (masks ops) [] [] false [] [] pl

/-- What an operation that lays a new block lays, and how one comes to it. -/
def freshA (G : Prg) (op : Op) (env : List AV) : Option (List AV × Fk) := match op with
  | .alloc t => (G.row t).map fun r => (r.zero, .ptr)
  | .box _ x => match ev G env x with
    | some v => if v.cells.all AV.one then some (v.cells, .ptr) else none
    | none => none
  | .buildSlice t len parts => match G.row t, evParts G env parts.toList with
    | some ⟨_, _, .slice e esz _, _⟩, some ps => match G.row e with
      | some re => (buildSliceA esz re.zero len ps 0).map fun (_, row) => (row, .sl len esz)
      | none => none
    | _, _ => none
  | _ => none

/-- The floats that may still wait answer now what they answered. -/
def Stay1 (G : Prg) (ops : Array Oper) (env : List AV) (σ : Heap) (f : Nat) : Prop := match floatA G ops (opd ops f) env σ with
  | some y => (opd ops f).dst.bind (env[·]?) = some y
  | none => False

def Stay (G : Prg) (ops : Array Oper) (env : List AV) (σ : Heap) : List Nat → Prop → Prop
  | [], X => X
  | f :: fs, X => Stay1 G ops env σ f ∧ Stay G ops env σ fs X

theorem Stay.out {G : Prg} {ops : Array Oper} {env : List AV} {σ : Heap} {X : Prop} : ∀ {l : List Nat}, Stay G ops env σ l X → X ∧ ∀ f ∈ l, Stay1 G ops env σ f
  | [], h => ⟨h, fun f hf => by cases hf⟩
  | g :: l, h => by
    obtain ⟨h1, h2⟩ := h
    obtain ⟨h3, h4⟩ := h2.out
    refine ⟨h3, fun f hf => ?_⟩
    rcases List.mem_cons.1 hf with rfl | hf
    · exact h1
    · exact h4 f hf

def DrawRun (G : Prg) (ops : Array Oper) : List PStep → List AV → Heap → (List AV → Heap → Prop) → Prop
  | [], env, σ, K => K env σ
  | .ann i :: rest, env, σ, K => (freshA G (opd ops i).op env).isSome = true ∧ DrawRun G ops rest env σ K
  | .op i pend :: rest, env, σ, K => WantA ops (opd ops i) env
      (OpRun G (opd ops i) env σ fun x σ' => Stay G ops (putA env (opd ops i).dst x) σ' pend (DrawRun G ops rest (putA env (opd ops i).dst x) σ' K))
      (DrawRun G ops rest (putA env (opd ops i).dst (.tup [])) σ K)

/-! ### Who is listed -/
theorem opd_get {ops : Array Oper} {i : Nat} (h : i < ops.size) : ops[i]? = some (opd ops i) := by
  simp [opd, h]

structure Up (ops : Array Oper) (un : Nat → Prop) : Prop where
  up : ∀ i, i < ops.size → ¬ un i → ∀ e ∈ edgesB (opd ops i), ¬ un e

theorem cert_edge {ops : Array Oper} {C : List Nat} (hc : certB ops C = true) {i : Nat} (hi : i < ops.size) : (∀ e ∈ edgesB (opd ops i), e < i) ∧ ∀ k, k < ops.size → anc C i k = true → k ∈ edgesB (opd ops i) ∨ ∃ e ∈ edgesB (opd ops i), anc C e k = true := by
  unfold certB at hc
  have h := List.all_eq_true.1 hc i (List.mem_range.2 hi)
  simp only [Bool.and_eq_true] at h
  refine ⟨fun e he => by simpa using List.all_eq_true.1 h.1 e he, fun k hk ha => ?_⟩
  have := List.all_eq_true.1 h.2 k (List.mem_range.2 hk)
  simp only [ha, Bool.not_true, Bool.false_or, Bool.or_eq_true] at this
  rcases this with h | h
  · exact .inl (by simpa using h)
  · obtain ⟨e, he, h⟩ := List.any_eq_true.1 h
    exact .inr ⟨e, he, h⟩

theorem anc_listed {ops : Array Oper} {C : List Nat} (hc : certB ops C = true) {un : Nat → Prop} (hu : Up ops un) {k : Nat} (hk : k < ops.size) : ∀ i, i < ops.size → (∀ e ∈ edgesB (opd ops i), ¬ un e) → anc C i k = true → ¬ un k := by
  intro i
  induction i using Nat.strongRecOn with
  | _ i ih =>
    intro hi he ha
    obtain ⟨h1, h2⟩ := cert_edge hc hi
    rcases h2 k hk ha with h | ⟨e, hee, h⟩
    · exact he k h
    · have hlt := h1 e hee
      exact ih e hlt (by omega) (fun e' he' => hu.up e (by omega) (he e hee) e' he') h

/-- Where someone is not listed, someone is ready. -/
theorem some_ready {ops : Array Oper} {C : List Nat} (hc : certB ops C = true) {un : Nat → Prop} : ∀ i, i < ops.size → un i → ∃ k, k < ops.size ∧ un k ∧ ∀ e ∈ edgesB (opd ops k), ¬ un e := by
  intro i
  induction i using Nat.strongRecOn with
  | _ i ih =>
    intro hi hun
    by_cases h : ∃ e ∈ edgesB (opd ops i), un e
    · obtain ⟨e, he, hu⟩ := h
      have := (cert_edge hc hi).1 e he
      exact ih e this (by omega) hu
    · exact ⟨i, hi, hun, fun e he hu => h ⟨e, he, hu⟩⟩

/-! ### The plan's pairs -/
structure PairOk (ops : Array Oper) (C : List Nat) (f i : Nat) : Prop where
  fi : ∀ d, (opd ops f).dst = some d → d ∈ (opd ops i).looksAt ops → anc C i f = true
  ne : ∀ d, (opd ops f).dst = some d → (opd ops i).dst ≠ some d
  fd : ∀ d, (opd ops i).dst = some d → d ∉ (opd ops f).looksAt ops

theorem pair_ok {ops : Array Oper} {C : List Nat} {f i : Nat} (hf : flt (opd ops f) = true) (h : pairB ops C f i = true) : PairOk ops C f i := by
  unfold pairB at h
  simp only [hf, Bool.not_true, Bool.false_or, Bool.and_eq_true] at h
  obtain ⟨h1, h2⟩ := h
  refine ⟨fun d hd hm => ?_, fun d hd => ?_, fun d hd => ?_⟩
  · simp only [hd, Bool.and_eq_true, Bool.or_eq_true, Bool.not_eq_true'] at h1
    rcases h1.2 with h | h
    · simp [hm] at h
    · exact h
  · simp only [hd, Bool.and_eq_true] at h1
    simpa using h1.1
  · simp only [hd] at h2
    simpa using h2

theorem self_ok {ops : Array Oper} {i : Nat} (h : selfB ops i = true) : ∀ d, (opd ops i).dst = some d → d ∉ (opd ops i).looksAt ops := fun d hd => by
  simp only [selfB, hd] at h
  simpa using h

theorem fresh_not_flt {o : Oper} (h : fresh o = true) : flt o = false := by
  unfold fresh at h
  unfold flt
  split at h <;> simp_all

theorem fresh_guard {o : Oper} (h : fresh o = true) : o.guard = none ∧ ∃ d, o.dst = some d := by
  unfold fresh at h
  split at h <;> first | (simp only [Bool.and_eq_true, Option.isNone_iff_eq_none] at h; exact ⟨h.1, Option.isSome_iff_exists.1 h.2⟩) | cases h

theorem fresh_call {o : Oper} (h : fresh o = true) : ∀ cl, o.op ≠ .call cl := fun cl hc => by simp [fresh, hc] at h

/-- Who waits, of those that are neither at the plan's head nor announced. -/
def Waits (ops : Array Oper) (seg : List Nat) (S : List PStep) (an : List Nat) (i : Nat) : Prop := ∃ e ∈ edgesB (opd ops i), e ∈ seg ∨ (e ∈ opsOf S ∧ e ∉ an)

theorem walk_seg {ops : Array Oper} {C : List Nat} : ∀ (S : List PStep) (done seg pa an : List Nat), walkB ops C done seg true pa an S = true → ∀ i ∈ opsOf S, i ∉ an → Waits ops seg S an i
  | [], _, _, _, _, _ => fun i hi => by cases hi
  | .ann j :: S, done, seg, pa, an, h => fun i hi hn => by
    simp only [walkB, Bool.and_eq_true, Bool.not_true, Bool.false_or] at h
    by_cases hij : i = j
    · subst hij
      obtain ⟨e, he, hs⟩ := List.any_eq_true.1 h.1.2
      exact ⟨e, he, .inl (by simpa using hs)⟩
    · obtain ⟨e, he, hs⟩ := walk_seg S _ _ _ _ h.2 i hi (by simp [hij, hn])
      refine ⟨e, he, ?_⟩
      rcases hs with hs | ⟨h1, h2⟩
      · exact .inl hs
      · exact .inr ⟨h1, fun hm => h2 (List.mem_cons_of_mem _ hm)⟩
  | .op j pend :: S, done, seg, pa, an, h => fun i hi hn => by
    simp only [walkB, Bool.and_eq_true, Bool.not_true, Bool.false_or, Bool.true_or] at h
    obtain ⟨⟨hx, _⟩, h⟩ := h
    by_cases hja : an.contains j = true
    · rw [if_pos hja] at h
      simp only [Bool.and_eq_true] at h
      simp only [opsOf, List.mem_cons] at hi
      rcases hi with rfl | hi
      · exact absurd (by simpa using hja) hn
      · obtain ⟨e, he, hs⟩ := walk_seg S _ _ _ _ h.2 i hi hn
        refine ⟨e, he, ?_⟩
        rcases hs with hs | ⟨h1, h2⟩
        · exact .inl hs
        · exact .inr ⟨by simp [opsOf, h1], h2⟩
    · rw [if_neg hja] at h
      simp only [Bool.and_eq_true] at h
      obtain ⟨⟨h5, _⟩, h7⟩ := h
      have hjn : j ∉ an := by simpa using hja
      simp only [opsOf, List.mem_cons] at hi
      by_cases hij : i = j
      · subst hij
        obtain ⟨e, he, hs⟩ := List.any_eq_true.1 h5
        exact ⟨e, he, .inl (by simpa using hs)⟩
      · obtain ⟨e, he, hs⟩ := walk_seg S _ _ _ _ h7 i (hi.resolve_left hij) hn
        refine ⟨e, he, ?_⟩
        rcases hs with hs | ⟨h1, h2⟩
        · split at hs
          · rcases List.mem_cons.1 hs with rfl | hs
            · exact .inr ⟨by simp [opsOf], hjn⟩
            · exact .inl hs
          · simp at hs; subst hs; exact .inr ⟨by simp [opsOf], hjn⟩
        · exact .inr ⟨by simp [opsOf, h1], h2⟩

theorem walk_pa {ops : Array Oper} {C : List Nat} {a : Nat} : ∀ (S : List PStep) (done seg : List Nat) (hasH : Bool) (pa an : List Nat), walkB ops C done seg hasH pa an S = true → a ∈ pa → ∀ i ∈ opsOf S, i ∉ an → Waits ops [a] S an i
  | [], _, _, _, _, _, _ => fun _ i hi => by cases hi
  | .ann j :: S, done, seg, hasH, pa, an, h => fun ha => by
    simp only [walkB, Bool.and_eq_true] at h
    have := h.1.1.2
    cases pa with
    | nil => cases ha
    | cons p pa => simp at this
  | .op j pend :: S, done, seg, hasH, pa, an, h => fun ha i hi hn => by
    simp only [walkB, Bool.and_eq_true] at h
    obtain ⟨⟨hx, _⟩, h⟩ := h
    by_cases hja : an.contains j = true
    · rw [if_pos hja] at h
      simp only [Bool.and_eq_true] at h
      simp only [opsOf, List.mem_cons] at hi
      rcases hi with rfl | hi
      · exact absurd (by simpa using hja) hn
      · obtain ⟨e, he, hs⟩ := walk_pa S _ _ _ _ _ h.2 (List.mem_cons_of_mem _ ha) i hi hn
        refine ⟨e, he, ?_⟩
        rcases hs with hs | ⟨h1, h2⟩
        · exact .inl hs
        · exact .inr ⟨by simp [opsOf, h1], h2⟩
    · rw [if_neg hja] at h
      simp only [Bool.and_eq_true] at h
      obtain ⟨⟨_, h6⟩, h7⟩ := h
      have hjn : j ∉ an := by simpa using hja
      have hjf : flt (opd ops j) = false := by
        cases hq : flt (opd ops j) with
        | false => rfl
        | true =>
          rw [hq, if_pos rfl] at h6
          cases pa with
          | nil => cases ha
          | cons p pa => simp at h6
      simp only [hjf, Bool.false_eq_true, if_false, Bool.not_false, Bool.or_true] at h6 h7
      simp only [opsOf, List.mem_cons] at hi
      by_cases hij : i = j
      · subst hij
        exact ⟨a, by simpa using List.all_eq_true.1 h6 a ha, .inl (by simp)⟩
      · obtain ⟨e, he, hs⟩ := walk_seg S _ _ _ _ h7 i (hi.resolve_left hij) hn
        refine ⟨e, he, ?_⟩
        rcases hs with hs | ⟨h1, h2⟩
        · simp at hs; subst hs; exact .inr ⟨by simp [opsOf], hjn⟩
        · exact .inr ⟨by simp [opsOf, h1], h2⟩

/-- An operation that was announced is not seen by those that come ahead of its step. -/
theorem walk_off {ops : Array Oper} {C : List Nat} {i : Nat} : ∀ (S : List PStep) (done seg : List Nat) (hasH : Bool) (pa an : List Nat), walkB ops C done seg hasH pa an S = true → i ∈ an → i ∈ opsOf S → ∀ g ∈ done, offB ops g i = true
  | [], _, _, _, _, _, _ => fun _ hi => by cases hi
  | .ann j :: S, done, seg, hasH, pa, an, h => fun ha hi g hg => by
    simp only [walkB, Bool.and_eq_true] at h
    exact walk_off S _ _ _ _ _ h.2 (List.mem_cons_of_mem _ ha) hi g hg
  | .op j pend :: S, done, seg, hasH, pa, an, h => fun ha hi g hg => by
    simp only [walkB, Bool.and_eq_true] at h
    obtain ⟨_, h⟩ := h
    simp only [opsOf, List.mem_cons] at hi
    by_cases hij : i = j
    · subst hij
      rw [if_pos (by simpa using ha)] at h
      simp only [Bool.and_eq_true] at h
      exact List.all_eq_true.1 h.1.1 g hg
    · have hi := hi.resolve_left hij
      by_cases hja : an.contains j = true
      · rw [if_pos hja] at h
        simp only [Bool.and_eq_true] at h
        exact walk_off S _ _ _ _ _ h.2 ha hi g (List.mem_cons_of_mem _ hg)
      · rw [if_neg hja] at h
        simp only [Bool.and_eq_true] at h
        exact walk_off S _ _ _ _ _ h.2 ha hi g (List.mem_cons_of_mem _ hg)

theorem off_ok {ops : Array Oper} {g i d : Nat} (h : offB ops g i = true) (hd : (opd ops i).dst = some d) : (opd ops g).dst ≠ some d ∧ d ∉ (opd ops g).looksAt ops := by
  simp only [offB, hd, Bool.and_eq_true, bne_iff_ne, ne_eq, Bool.not_eq_true'] at h
  exact ⟨h.1, by simpa using h.2⟩

structure AnnOk (ops : Array Oper) (C : List Nat) (done : List Nat) (i : Nat) : Prop where
  lt : i < ops.size
  fr : fresh (opd ops i) = true
  nd : i ∉ done
  sees : ∀ g, g < ops.size → ∀ t, (opd ops g).dst = some t → t ∈ (opd ops i).looksAt ops → anc C i g = true ∧ g ∈ done

theorem ann_ok {ops : Array Oper} {C : List Nat} {done : List Nat} {i : Nat} (h : annB ops C done i = true) : AnnOk ops C done i := by
  simp only [annB, Bool.and_eq_true] at h
  obtain ⟨⟨⟨h1, h2⟩, h3⟩, h4⟩ := h
  refine ⟨by simpa using h1, h2, by simpa using h3, fun g hg t ht hm => ?_⟩
  have := List.all_eq_true.1 h4 g (List.mem_range.2 hg)
  simp only [ht, Bool.or_eq_true, Bool.and_eq_true, Bool.not_eq_true'] at this
  rcases this with h | h
  · simp [hm] at h
  · exact ⟨h.1, by simpa using h.2⟩

theorem putA_get_ne {env : List AV} {dst : Option Nat} {x : AV} {t : Nat} (h : dst ≠ some t) : (putA env dst x)[t]? = env[t]? := by
  cases dst with
  | none => rfl
  | some d => exact List.getElem?_set_ne (fun e => h (by rw [e]))

theorem putA_get_eq {env env' : List AV} (hl : env.length = env'.length) {dst : Option Nat} {x : AV} {t : Nat} (h : env[t]? = env'[t]?) : (putA env dst x)[t]? = (putA env' dst x)[t]? := by
  cases dst with
  | none => exact h
  | some d =>
    simp only [putA]
    by_cases hd : d = t
    · subst hd
      simp only [List.getElem?_set, if_true, hl]
    · rw [List.getElem?_set_ne hd, List.getElem?_set_ne hd, h]

theorem putA_len {env : List AV} {dst : Option Nat} {x : AV} : (putA env dst x).length = env.length := by
  cases dst <;> simp [putA]

theorem edge_mem {o : Oper} {e : Nat} : e ∈ edgesB o ↔ ∃ x ∈ o.after, Region.binds .any x = true ∧ x.on = e := by
  simp only [edgesB, List.mem_map, List.mem_filter, Array.mem_toList_iff]
  exact ⟨fun ⟨x, ⟨h1, h2⟩, h3⟩ => ⟨x, h1, h2, h3⟩, fun ⟨x, h1, h2, h3⟩ => ⟨x, ⟨h1, h2⟩, h3⟩⟩

theorem getD_true {l : Array Bool} {i : Nat} (h : l.getD i false = true) : l.getD i true = true := by
  simp only [Array.getD_eq_getD_getElem?] at *
  cases hq : l[i]? with
  | none => rfl
  | some b => rw [hq] at h; exact h

theorem getD_false {l : Array Bool} {i : Nat} (hi : i < l.size) (h : ¬ l.getD i true = false) : l.getD i false = true := by
  simp only [Array.getD_eq_getD_getElem?, Array.getElem?_eq_getElem hi, Option.getD_some, Bool.not_eq_false] at *
  exact h

theorem getD_set {l : Array Bool} {i j : Nat} (hi : i < l.size) : (l.setIfInBounds i true).getD j true = false ↔ (j ≠ i ∧ l.getD j true = false) := by
  simp only [Array.getD_eq_getD_getElem?]
  by_cases h : i = j
  · subst h; simp [Array.getElem?_setIfInBounds_self_of_lt hi]
  · rw [Array.getElem?_setIfInBounds_ne h]
    exact ⟨fun h' => ⟨fun e => h e.symm, h'⟩, fun h' => h'.2⟩

theorem flt_dst {o : Oper} (h : flt o = true) : ∃ d, o.dst = some d := by
  unfold flt at h
  apply Option.isSome_iff_exists.1
  split at h <;> first | exact h | (simp at h; exact h.1) | cases h

theorem walk_head {ops : Array Oper} {C : List Nat} {done seg : List Nat} {hasH : Bool} {pa an : List Nat} {j : Nat} {pend : List Nat} {S : List PStep} (h : walkB ops C done seg hasH pa an (.op j pend :: S) = true) :
    j < ops.size ∧ j ∉ done ∧ (∀ f ∈ done, pairB ops C f j = true) ∧ selfB ops j = true ∧
    (if flt (opd ops j) then pend.isEmpty else done.all fun f => !flt (opd ops f) || anc C j f || still (opd ops f) || pend.contains f) = true ∧
    (if an.contains j then done.all (fun g => offB ops g j) && !flt (opd ops j) && walkB ops C (j :: done) seg hasH (j :: pa) an S
     else (!hasH || (edgesB (opd ops j)).any seg.contains) && (if flt (opd ops j) then pa.isEmpty else pa.all fun a => (edgesB (opd ops j)).contains a) &&
       walkB ops C (j :: done) (if flt (opd ops j) then j :: seg else [j]) (hasH || !flt (opd ops j)) [] an S) = true := by
  simp only [walkB, Bool.and_eq_true] at h
  obtain ⟨⟨⟨⟨⟨h1, h2⟩, h3⟩, h4⟩, h6⟩, h7⟩ := h
  exact ⟨by simpa using h1, by simpa using h2, fun f hf => List.all_eq_true.1 h3 f hf, h4, h6, by simpa only [Bool.and_eq_true] using h7⟩

/-- Whoever is at the head, what is behind goes on. -/
theorem walk_next {ops : Array Oper} {C : List Nat} {done seg : List Nat} {hasH : Bool} {pa an : List Nat} {j : Nat} {pend : List Nat} {S : List PStep} (h : walkB ops C done seg hasH pa an (.op j pend :: S) = true) :
    ∃ seg' hasH' pa', walkB ops C (j :: done) seg' hasH' pa' an S = true := by
  obtain ⟨_, _, _, _, _, h⟩ := walk_head h
  split at h
  · simp only [Bool.and_eq_true] at h; exact ⟨_, _, _, h.2⟩
  · simp only [Bool.and_eq_true] at h; exact ⟨_, _, _, h.2⟩

/-- Who waits for whom, of those behind the plan's head. -/
theorem walk_waits {ops : Array Oper} {C : List Nat} {done seg : List Nat} {hasH : Bool} {pa an : List Nat} {j : Nat} {pend : List Nat} {S : List PStep} (h : walkB ops C done seg hasH pa an (.op j pend :: S) = true) (hf : flt (opd ops j) = false) :
    ∀ i ∈ opsOf S, i ∉ an → Waits ops [j] S an i := by
  obtain ⟨_, _, _, _, _, h⟩ := walk_head h
  split at h
  · simp only [Bool.and_eq_true] at h
    exact walk_pa S _ _ _ _ _ h.2 (List.mem_cons_self ..)
  · simp only [hf, Bool.false_eq_true, if_false, Bool.not_false, Bool.or_true, Bool.and_eq_true] at h
    exact walk_seg S _ _ _ _ h.2

/-! ### Blocks that were laid ahead of the plan -/
theorem freshA_off {G : Prg} {ops : Array Oper} {o : Oper} {env env' : List AV} (h : ∀ t ∈ o.looksAt ops, env[t]? = env'[t]?) : freshA G o.op env = freshA G o.op env' := by
  have hev : ∀ x ∈ o.op.operands, ev G env x = ev G env' x := fun x hx => ev_off fun t ht => h t (by subst ht; exact looks_op hx)
  unfold freshA
  split
  · rfl
  · rename_i t x hop
    rw [hop] at hev
    rw [hev x (by simp [Op.operands])]
  · rename_i t len parts hop
    rw [hop] at hev
    rw [evParts_congr parts.toList fun x hx => hev x (by simp only [Op.operands]; simpa using hx)]
  · rfl

theorem opRun_fresh {G : Prg} {o : Oper} {env : List AV} {σ : Heap} {row : List AV} {k : Fk} {K : AV → Heap → Prop} (hf : freshA G o.op env = some (row, k)) (h : OpRun G o env σ K) : K (k.ref σ.length) (σ ++ [.cells row 0]) := by
  unfold freshA at hf
  unfold OpRun at h
  split at hf
  · rename_i t hop
    simp only [hop, ex] at h
    obtain ⟨r, hr, hx⟩ := Option.map_eq_some_iff.1 hf
    cases hx
    simpa [hr, Fk.ref] using h
  · rename_i t x hop
    simp only [hop, ex] at h
    split at hf
    · rename_i v hv
      split at hf
      · rename_i hall
        cases hf
        simpa only [hv, hall, if_true, Fk.ref] using h
      · cases hf
    · cases hf
  · rename_i t len parts hop
    simp only [hop, ex] at h
    split at hf
    · rename_i s1 b1 e esz eb z1 ps hr hps
      simp only [hr, hps] at h
      split at hf
      · rename_i re hre
        simp only [hre] at h
        obtain ⟨⟨y, row'⟩, hb, hx⟩ := Option.map_eq_some_iff.1 hf
        cases hx
        have : buildSliceA esz re.zero len ps σ.length = some (.sl σ.length 0 0 len esz, row) := by
          unfold buildSliceA at hb ⊢
          split at hb
          case isTrue hc =>
            obtain ⟨row', h1, h2⟩ := Option.map_eq_some_iff.1 hb
            simp only [Prod.mk.injEq] at h2
            obtain ⟨_, rfl⟩ := h2
            rw [if_pos hc, h1]
            rfl
          case isFalse => cases hb
        simpa [this, Fk.ref] using h
      · cases hf
    · cases hf
  · cases hf

theorem fresh_exec {G : Prg} {c : Cfg} {σ : Heap} {env : List AV} {a : Act} (hG : GOk G c.M) (hs : Sim c σ) (he : RepL c.M c.L env a.tmps) {o : Oper} {row : List AV} {k : Fk} (hf : freshA G o.op env = some (row, k)) :
    ∃ c' v, (execOp a.eval o).run G.P c.w = .ok (.value v) c'.w ∧ Fresh1 c c' row k v := by
  unfold freshA at hf
  split at hf
  · rename_i t hop
    obtain ⟨r, hr, hx⟩ := Option.map_eq_some_iff.1 hf
    cases hx
    obtain ⟨c', v, h1, h2, h3, h4, h5⟩ := alloc_ok1 hs hr
    exact ⟨c', v, by simp [execOp, hop, h1], h5⟩
  · rename_i t x hop
    split at hf
    · rename_i v hv
      split at hf
      · rename_i hall
        cases hf
        obtain ⟨c', u, h1, h2, h3, h4, h5⟩ := box_ok1 (P := G.P) hs t (ev_rep hG he hv) hall
        exact ⟨c', u, by simp [execOp, hop, h1], h5⟩
      · cases hf
    · cases hf
  · rename_i t len parts hop
    split at hf
    · rename_i s1 b1 e esz eb z1 ps hr hps
      split at hf
      · rename_i re hre
        obtain ⟨⟨y, row'⟩, hb, hx⟩ := Option.map_eq_some_iff.1 hf
        cases hx
        obtain ⟨p1, p2⟩ := evParts_rep hG he _ _ hps
        have hb' : buildSliceA esz re.zero len ps σ.length = some (.sl σ.length 0 0 len esz, row) := by
          unfold buildSliceA at hb ⊢
          split at hb
          case isTrue hc =>
            obtain ⟨row', h1, h2⟩ := Option.map_eq_some_iff.1 hb
            simp only [Prod.mk.injEq] at h2
            obtain ⟨_, rfl⟩ := h2
            rw [if_pos hc, h1]
            rfl
          case isFalse => cases hb
        obtain ⟨c', v, h1, h2, h3, h4, _, h5⟩ := buildSlice_ok1 hs hr rfl hre (pa := ps) (pc := parts.map fun (i, x) => (i, a.eval x)) (by simp [p1]) (fun i y z hy hz => p2 i y z hy (by simpa using hz)) hb'
        exact ⟨c', v, by simp [execOp, hop, h1], h5⟩
      · cases hf
    · cases hf
  · cases hf

/-- A block that was laid, and is nobody's yet. -/
structure Hid (c : Cfg) (b : Nat) (row : List AV) (k : Fk) (v : Value) : Prop where
  off : ∀ e ∈ c.L, e.b ≠ b
  mem : ∀ o, c.M b o = none
  ok : ∃ (vs : Array Value) (ty : TypeId), c.w.heap[b]? = some (.cells vs ty (0, 0)) ∧ row.length ≤ vs.size ∧
    (∀ (i : Nat) (x : AV), row[i]? = some x → ∃ u : Value, vs[i]? = some u ∧ c.rep x u ∧ oneCell u) ∧ ∀ (M : Mem) (L : List Ent) (id : Nat), L[id]? = some ⟨b, 0, row.length, vs.size⟩ → Rep M L (k.ref id) v

theorem Hid.lt {c : Cfg} {b : Nat} {row : List AV} {k : Fk} {v : Value} (h : Hid c b row k v) : b < c.w.heap.size := by
  obtain ⟨vs, ty, h1, _⟩ := h.ok
  exact (Array.getElem?_eq_some_iff.1 h1).1

theorem Hid.mono {c c' : Cfg} {b : Nat} {row : List AV} {k : Fk} {v : Value} (h : Hid c b row k v) (hle : c.Le c') : Hid c' b row k v := by
  have hlt := h.lt
  obtain ⟨vs, ty, h1, h2, h3, h4⟩ := h.ok
  refine ⟨fun e he heq => ?_, fun o => ?_, vs, ty, by rw [hle.keep b hlt h.off]; exact h1, h2, fun i x hx => ?_, h4⟩
  · rcases hle.fresh e he with ⟨e0, h0, q0⟩ | h0
    · exact h.off e0 h0 (by rw [q0, heq])
    · omega
  · by_cases hq : c'.M b o = c.M b o
    · rw [hq]; exact h.mem o
    · rcases hle.mfresh b o hq with ⟨e0, h0, q0⟩ | h0
      · exact absurd q0 (h.off e0 h0)
      · omega
  · obtain ⟨u, hu, hr, h1⟩ := h3 i x hx
    exact ⟨u, hu, hle.rep hr, h1⟩

/-- It is laid: what there was stays as it was. -/
theorem Hid.make {c c' : Cfg} {σ : Heap} {row : List AV} {k : Fk} {v : Value} (hs : Sim c σ) (h : Fresh1 c c' row k v) : c.Le ⟨c.M, c.L, c'.w⟩ ∧ Sim ⟨c.M, c.L, c'.w⟩ σ ∧ Hid ⟨c.M, c.L, c'.w⟩ c.w.heap.size row k v := by
  obtain ⟨vs, ty, rfl, h1, h2, h3⟩ := h
  obtain ⟨q1, q2⟩ := Sim.other (o := .cells vs ty) hs
  refine ⟨q1, q2, fun e he heq => ?_, fun o => ?_, vs, ty, alloc_get _ _, h1, h2, h3⟩
  · have := hs.lt e he; omega
  · cases hM : c.M c.w.heap.size o with
    | none => rfl
    | some v => have := World.block_lt_of_cell? _ _ (hs.prot _ _ _ hM); simp at this

/-- It becomes somebody's. -/
theorem Hid.reveal {c0 c : Cfg} {σ : Heap} {b : Nat} {row : List AV} {k : Fk} {v : Value} (hs : Sim c σ) (h0 : c0.Le c) (hb : c0.w.heap.size ≤ b) (h : Hid c b row k v) :
    ∃ e : Ent, e.b = b ∧ c0.Le ⟨c.M, c.L ++ [e], c.w⟩ ∧ Sim ⟨c.M, c.L ++ [e], c.w⟩ (σ ++ [.cells row 0]) ∧ Rep c.M (c.L ++ [e]) (k.ref σ.length) v := by
  have hlt := h.lt
  obtain ⟨vs, ty, h1, h2, h3, h4⟩ := h.ok
  have hmono : ∀ {x : AV} {u : Value}, c.rep x u → Rep c.M (c.L ++ [⟨b, 0, row.length, vs.size⟩]) x u := fun hr => Rep.mono (fun _ _ _ h => h) hr (Ents.le_append _ _)
  refine ⟨⟨b, 0, row.length, vs.size⟩, rfl, ⟨h0.mem, Ents.le_trans h0.ents (Ents.le_append _ _), h0.size, h0.keep, fun e he => ?_, h0.mfresh, h0.out, h0.os, h0.loops⟩, ?_, h4 _ _ _ (by simp [← hs.len])⟩
  · rcases List.mem_append.1 he with he | he
    · exact h0.fresh e he
    · simp at he; subst he; exact .inr hb
  · have hcase : ∀ (i : Nat) (x : Ent), (c.L ++ [(⟨b, 0, row.length, vs.size⟩ : Ent)])[i]? = some x → (c.L[i]? = some x) ∨ (i = c.L.length ∧ x = ⟨b, 0, row.length, vs.size⟩) := fun i x hx => by
      by_cases hi : i < c.L.length
      · rw [List.getElem?_append_left hi] at hx; exact .inl hx
      · rw [List.getElem?_append_right (by omega)] at hx
        have : i - c.L.length = 0 := by
          rcases Nat.eq_zero_or_pos (i - c.L.length) with h | h
          · exact h
          · rw [List.getElem?_eq_none (by simp; omega)] at hx; cases hx
        rw [this] at hx; simp at hx
        exact .inr ⟨by omega, hx.symm⟩
    refine ⟨by simp [hs.len], hs.prot, fun e he => ?_, fun j e y hx hy => ?_, fun i j x x' y hx hx' hy hal heq => ?_⟩
    · rcases List.mem_append.1 he with he | he
      · exact hs.lt e he
      · simp at he; subst he; exact hlt
    · rcases hcase j e hx with h5 | ⟨rfl, rfl⟩
      · have hj := (List.getElem?_eq_some_iff.1 h5).1
        rw [List.getElem?_append_left (by rw [← hs.len]; exact hj)] at hy
        have hle : c.Le ⟨c.M, c.L ++ [⟨b, 0, row.length, vs.size⟩], c.w⟩ ∨ True := .inr trivial
        have hb0 := hs.blk _ _ _ h5 hy
        cases y with
        | dead => trivial
        | cells row' g =>
          obtain ⟨q1, q2, q3, cs, t, q4, q5, q6, q7⟩ := hb0
          exact ⟨q1, q2, q3, cs, t, q4, q5, q6, fun i x hx => by obtain ⟨u, hu, hr, h1⟩ := q7 i x hx; exact ⟨u, hu, hmono hr, h1⟩⟩
        | loop st pend env ps as body =>
          obtain ⟨q1, l, q2, q3, q4, q5, q6, q7, q9⟩ := hb0
          exact ⟨q1, l, q2, q3, q4, q5, q6, q7, q9.1, fun i x v hx hv => hmono (q9.2 i x v hx hv)⟩
        | map es clock =>
          obtain ⟨q1, es', q2, q3, q4⟩ := hb0
          exact ⟨q1, es', q2, q3, fun i x m hx hm' => by obtain ⟨a, b, d⟩ := q4 i x m hx hm'; exact ⟨hmono a, hmono b, d⟩⟩
        | strIter s pos => exact hb0
        | mapIter m since seen stepped =>
          obtain ⟨q1, m', q2, q3⟩ := hb0
          refine ⟨q1, m', q2, ?_⟩
          cases m with
          | none => exact q3
          | some id =>
            obtain ⟨e', he', hb'⟩ := q3
            exact ⟨e', by rw [List.getElem?_append_left (List.getElem?_eq_some_iff.1 he').1]; exact he', hb'⟩
      · rw [hs.len, List.getElem?_append_right (Nat.le_refl _), Nat.sub_self] at hy
        simp at hy; subst hy
        exact ⟨rfl, rfl, h.mem, vs, ty, h1, rfl, h2, fun i x hx => by obtain ⟨u, hu, hr, h1⟩ := h3 i x hx; exact ⟨u, hu, hmono hr, h1⟩⟩
    · rcases hcase i x hx with h5 | ⟨h5, h6⟩ <;> rcases hcase j x' hx' with h7 | ⟨h7, h8⟩
      · have hi := (List.getElem?_eq_some_iff.1 h5).1
        rw [List.getElem?_append_left (by rw [← hs.len]; exact hi)] at hy
        exact hs.inj i j x x' y h5 h7 hy hal heq
      · subst h8
        exact absurd heq (h.off x (List.mem_of_getElem? h5))
      · subst h6
        exact absurd heq.symm (h.off x' (List.mem_of_getElem? h7))
      · omega

/-! ### That one order stands for all -/
structure St (G : Prg) (ops : Array Oper) (C : List Nat) (K : List AV → Heap → Prop) (env ens : List AV) (σ : Heap) (U : List Nat) (S : List PStep) (done seg : List Nat) (hasH : Bool) (pa an E : List Nat) (listed : Array Bool) (fuel : Nat) : Prop where
  un : ∀ i, i < ops.size → (listed.getD i true = false ↔ (i ∈ U ∨ i ∈ opsOf S) ∧ i ∉ E)
  size : listed.size = ops.size
  nd : U.Nodup
  ns : ∀ i ∈ U, i ∉ opsOf S
  nS : (opsOf S).Nodup
  nE : E.Nodup
  ES : ∀ i ∈ E, i ∈ an ∧ i ∈ opsOf S
  fuel : fuel + E.length = U.length + (opsOf S).length
  up : Up ops (fun i => (i ∈ U ∨ i ∈ opsOf S) ∧ i ∉ E)
  walk : walkB ops C done seg hasH pa an S = true
  udone : ∀ f ∈ U, f ∈ done
  ult : ∀ f ∈ U, f < ops.size ∧ flt (opd ops f) = true ∧ selfB ops f = true
  upair : ∀ f ∈ U, ∀ g ∈ U, f ≠ g → PairOk ops C f g ∨ PairOk ops C g f
  aok : ∀ i ∈ an, ∃ done', AnnOk ops C done' i ∧ ∀ g ∈ done', g ∈ done
  fr : ∀ i ∈ an, i ∈ opsOf S → (freshA G (opd ops i).op ens).isSome = true
  len : env.length = ens.length
  agree : ∀ t, (∀ f ∈ U, (opd ops f).dst ≠ some t) → (∀ i ∈ E, (opd ops i).dst ≠ some t) → env[t]? = ens[t]?
  val : ∀ f ∈ U, ∃ d y, (opd ops f).dst = some d ∧ floatA G ops (opd ops f) ens σ = some y ∧ (d < ens.length → ens[d]? = some y)
  run : DrawRun G ops S ens σ K

/-- The blocks that were laid ahead of the plan. -/
def Early (G : Prg) (ops : Array Oper) (c0 c : Cfg) (ens : List AV) (a : Act) (E : List Nat) : Prop := ∃ β : Nat → Nat, (∀ i ∈ E, ∀ j ∈ E, β i = β j → i = j) ∧
  ∀ i ∈ E, ∃ row k v d, freshA G (opd ops i).op ens = some (row, k) ∧ (opd ops i).dst = some d ∧ (∀ u, a.tmps[d]? = some u → u = v) ∧ c0.w.heap.size ≤ β i ∧ Hid c (β i) row k v

theorem Early.mono {G : Prg} {ops : Array Oper} {c0 c c' : Cfg} {ens ens' : List AV} {a a' : Act} {E : List Nat} (h : Early G ops c0 c ens a E) (hle : c.Le c')
    (hf : ∀ i ∈ E, freshA G (opd ops i).op ens' = freshA G (opd ops i).op ens) (ha : ∀ i ∈ E, ∀ d, (opd ops i).dst = some d → a'.tmps[d]? = a.tmps[d]?) : Early G ops c0 c' ens' a' E := by
  obtain ⟨β, h1, h2⟩ := h
  refine ⟨β, h1, fun i hi => ?_⟩
  obtain ⟨row, k, v, d, q1, q2, q3, q4, q5⟩ := h2 i hi
  exact ⟨row, k, v, d, by rw [hf i hi]; exact q1, q2, by rw [ha i hi d q2]; exact q3, q4, q5.mono hle⟩

theorem put_tmps {a : Act} {dst : Option Nat} {v : Value} {d : Nat} (h : dst ≠ some d) : (a.put dst v).tmps[d]? = a.tmps[d]? := by
  cases dst with
  | none => rfl
  | some e =>
    simp only [Act.put]
    exact Array.getElem?_setIfInBounds_ne (fun hh => h (by rw [hh]))

theorem walk_nodup {ops : Array Oper} {C : List Nat} : ∀ (S : List PStep) (done seg : List Nat) (hasH : Bool) (pa an : List Nat), walkB ops C done seg hasH pa an S = true → (opsOf S).Nodup ∧ ∀ i ∈ opsOf S, i ∉ done
  | [], _, _, _, _, _, _ => ⟨by simp [opsOf], fun i hi => by cases hi⟩
  | .ann j :: S, done, seg, hasH, pa, an, h => by
    simp only [walkB, Bool.and_eq_true] at h
    exact walk_nodup S _ _ _ _ _ h.2
  | .op j pend :: S, done, seg, hasH, pa, an, h => by
    obtain ⟨w1, w2, _⟩ := walk_head h
    obtain ⟨_, _, _, w6⟩ := walk_next h
    obtain ⟨h1, h2⟩ := walk_nodup S _ _ _ _ _ w6
    simp only [opsOf]
    refine ⟨List.nodup_cons.2 ⟨fun hm => h2 j hm (List.mem_cons_self ..), h1⟩, fun i hi => ?_⟩
    rcases List.mem_cons.1 hi with rfl | hi
    · exact w2
    · exact fun hm => h2 i hi (List.mem_cons_of_mem _ hm)

theorem walk_two {ops : Array Oper} {C : List Nat} {i j d : Nat} (hij : i ≠ j) (hd : (opd ops j).dst = some d) (hd' : (opd ops i).dst ≠ none) : ∀ (S : List PStep) (done seg : List Nat) (hasH : Bool) (pa an : List Nat), walkB ops C done seg hasH pa an S = true → i ∈ an → j ∈ an → i ∈ opsOf S → j ∈ opsOf S → (opd ops i).dst ≠ some d
  | [], _, _, _, _, _, _ => fun _ _ hi => by cases hi
  | .ann k :: S, done, seg, hasH, pa, an, h => fun h1 h2 h3 h4 => by
    simp only [walkB, Bool.and_eq_true] at h
    exact walk_two hij hd hd' S _ _ _ _ _ h.2 (List.mem_cons_of_mem _ h1) (List.mem_cons_of_mem _ h2) h3 h4
  | .op k pend :: S, done, seg, hasH, pa, an, h => fun h1 h2 h3 h4 => by
    obtain ⟨_, _, _, w6⟩ := walk_next h
    simp only [opsOf, List.mem_cons] at h3 h4
    by_cases hki : i = k
    · subst hki
      have := walk_off S _ _ _ _ _ w6 h2 (h4.resolve_left (Ne.symm hij)) i (List.mem_cons_self ..)
      exact (off_ok this hd).1
    · by_cases hkj : j = k
      · subst hkj
        have := walk_off S _ _ _ _ _ w6 h1 (h3.resolve_left hij) j (List.mem_cons_self ..)
        cases hi : (opd ops i).dst with
        | none => exact absurd hi hd'
        | some d' =>
          have := (off_ok this hi).1
          rw [hd] at this
          exact fun e => this (by cases e; rfl)
      · exact walk_two hij hd hd' S _ _ _ _ _ w6 h1 h2 (h3.resolve_left hki) (h4.resolve_left hkj)

theorem nodup_len : ∀ {l m : List Nat}, l.Nodup → (∀ x ∈ l, x ∈ m) → l.length ≤ m.length
  | [], _, _, _ => Nat.zero_le _
  | x :: l, m, h, hs => by
    have hx := hs x (List.mem_cons_self ..)
    obtain ⟨h1, h2⟩ := List.nodup_cons.1 h
    have := nodup_len (m := m.erase x) h2 fun y hy => (List.mem_erase_of_ne (fun e => h1 (by subst e; exact hy))).2 (hs y (List.mem_cons_of_mem _ hy))
    rw [List.length_erase_of_mem hx] at this
    have := List.length_pos_of_mem hx
    simp only [List.length_cons]
    omega

section
variable {G : Prg} {ops : Array Oper} {C : List Nat} {K : List AV → Heap → Prop} {env ens : List AV} {σ : Heap} {U : List Nat} {done seg : List Nat} {hasH : Bool} {pa an E : List Nat} {listed : Array Bool} {fuel : Nat}

theorem St.anFresh {S : List PStep} (h : St G ops C K env ens σ U S done seg hasH pa an E listed fuel) {i : Nat} (hi : i ∈ an) : fresh (opd ops i) = true := by
  obtain ⟨_, h1, _⟩ := h.aok i hi
  exact h1.fr

/-- An operation that comes now is not seen by what was announced. -/
theorem St.frPut {S : List PStep} (h : St G ops C K env ens σ U S done seg hasH pa an E listed fuel) {j : Nat} (hj : j < ops.size) (hjd : j ∉ done) (x : AV) {i : Nat} (hi : i ∈ an) :
    freshA G (opd ops i).op (putA ens (opd ops j).dst x) = freshA G (opd ops i).op ens := by
  obtain ⟨done', h1, h2⟩ := h.aok i hi
  refine freshA_off (ops := ops) fun t ht => putA_get_ne fun e => ?_
  exact hjd (h2 j (h1.sees j hj t e ht).2)

/-- An announcement. -/
theorem St.annA {S : List PStep} {j : Nat} (h : St G ops C K env ens σ U (.ann j :: S) done seg hasH pa an E listed fuel) : St G ops C K env ens σ U S done seg hasH pa (j :: an) E listed fuel := by
  have hw := h.walk
  simp only [walkB, Bool.and_eq_true] at hw
  have hr := h.run
  simp only [DrawRun] at hr
  exact {
    un := h.un, size := h.size, nd := h.nd, ns := h.ns, nS := h.nS, nE := h.nE
    ES := fun i hi => ⟨List.mem_cons_of_mem _ (h.ES i hi).1, (h.ES i hi).2⟩
    fuel := h.fuel, up := h.up, walk := hw.2, udone := h.udone, ult := h.ult, upair := h.upair
    aok := fun i hi => by
      rcases List.mem_cons.1 hi with rfl | hi
      · exact ⟨done, ann_ok hw.1.1.1.1, fun g hg => hg⟩
      · exact h.aok i hi
    fr := fun i hi hS => by
      rcases List.mem_cons.1 hi with rfl | hi
      · exact hr.1
      · exact h.fr i hi hS
    len := h.len, agree := h.agree, val := h.val, run := hr.2 }

/-- A float at the head of the plan joins those that wait. -/
theorem St.adv {j : Nat} {pend : List Nat} {S : List PStep} (h : St G ops C K env ens σ U (.op j pend :: S) done seg hasH pa an E listed fuel) (hf : flt (opd ops j) = true) :
    ∃ ens', St G ops C K env ens' σ (U ++ [j]) S (j :: done) (j :: seg) hasH [] an E listed fuel ∧ ∀ i ∈ an, freshA G (opd ops i).op ens' = freshA G (opd ops i).op ens := by
  obtain ⟨w1, w2, w3, w4, w5, w6⟩ := walk_head h.walk
  have hja : an.contains j = false := by
    cases hq : an.contains j with
    | false => rfl
    | true =>
      have := fresh_not_flt (h.anFresh (by simpa using hq))
      rw [hf] at this; cases this
  simp only [hf, if_true, hja, Bool.false_eq_true, if_false, Bool.not_true, Bool.or_false, Bool.and_eq_true] at w5 w6
  obtain rfl : pend = [] := by simpa using w5
  obtain ⟨d, hd⟩ := flt_dst hf
  have hrun := h.run
  simp only [DrawRun, Stay] at hrun
  obtain ⟨x, hx, hr⟩ := wantA_flt (K := fun x s => DrawRun G ops S (putA ens (opd ops j).dst x) s K) hf (fun hy => hy) hrun
  have hjU : j ∉ U := fun hm => h.ns j hm (by simp [opsOf])
  have hjE : j ∉ E := fun hm => by
    have := h.anFresh (h.ES j hm).1
    rw [fresh_not_flt this] at hf; cases hf
  have hpair : ∀ f ∈ U, PairOk ops C f j := fun f hm => pair_ok (h.ult f hm).2.1 (w3 f (h.udone f hm))
  have hoff : ∀ f, (∀ t ∈ (opd ops f).looksAt ops, t ≠ d) → floatA G ops (opd ops f) (putA ens (opd ops j).dst x) σ = floatA G ops (opd ops f) ens σ := fun f hm =>
    floatA_off fun t ht => putA_get_ne (by rw [hd]; exact fun e => hm t ht (by cases e; rfl))
  refine ⟨putA ens (opd ops j).dst x, ?_, fun i hi => h.frPut w1 w2 x hi⟩
  have hmem : ∀ i, (i ∈ U ++ [j] ∨ i ∈ opsOf S) ↔ (i ∈ U ∨ i ∈ opsOf (.op j [] :: S)) := fun i => by
    simp only [List.mem_append, List.mem_cons, opsOf, or_assoc, List.not_mem_nil, false_or]
  exact {
    un := fun i hi => by rw [h.un i hi, hmem]
    size := h.size
    nd := by
      rw [List.nodup_append]
      refine ⟨h.nd, by simp, fun a ha b hb => ?_⟩
      simp at hb; subst hb
      exact fun e => hjU (e ▸ ha)
    ns := fun i hi => by
      rcases List.mem_append.1 hi with hi | hi
      · exact fun hm => h.ns i hi (by simp only [opsOf, List.mem_cons]; exact .inr hm)
      · simp at hi; subst hi
        exact (List.nodup_cons.1 h.nS).1
    nS := (List.nodup_cons.1 h.nS).2
    nE := h.nE
    ES := fun i hi => ⟨(h.ES i hi).1, by
      have := (h.ES i hi).2
      simp only [opsOf, List.mem_cons] at this
      exact this.resolve_left fun e => hjE (e ▸ hi)⟩
    fuel := by rw [h.fuel]; simp [opsOf]; omega
    up := ⟨fun i hi hn e he => by rw [hmem] at hn ⊢; exact h.up.up i hi hn e he⟩
    walk := w6.2
    udone := fun f hm => by
      rcases List.mem_append.1 hm with hm | hm
      · exact List.mem_cons_of_mem _ (h.udone f hm)
      · simp at hm; subst hm; exact List.mem_cons_self ..
    ult := fun f hm => by
      rcases List.mem_append.1 hm with hm | hm
      · exact h.ult f hm
      · simp at hm; subst hm; exact ⟨w1, hf, w4⟩
    upair := fun f hm g hg hne => by
      rcases List.mem_append.1 hm with m1 | m1 <;> rcases List.mem_append.1 hg with m2 | m2
      · exact h.upair f m1 g m2 hne
      · simp at m2; subst m2; exact .inl (hpair f m1)
      · simp at m1; subst m1; exact .inr (hpair g m2)
      · simp at m1 m2; exact absurd (m1.trans m2.symm) hne
    aok := fun i hi => by
      obtain ⟨done', q1, q2⟩ := h.aok i hi
      exact ⟨done', q1, fun g hg => List.mem_cons_of_mem _ (q2 g hg)⟩
    fr := fun i hi hS => by rw [h.frPut w1 w2 x hi]; exact h.fr i hi (by simp [opsOf, hS])
    len := by rw [putA_len]; exact h.len
    agree := fun t ht hE => by
      rw [putA_get_ne (ht j (by simp))]
      exact h.agree t (fun f hm => ht f (by simp [hm])) hE
    val := fun f hm => by
      rcases List.mem_append.1 hm with hm | hm
      · obtain ⟨e, y, h1, h2, h3⟩ := h.val f hm
        have hp := hpair f hm
        refine ⟨e, y, h1, ?_, ?_⟩
        · rw [hoff f fun t ht e => hp.fd d hd (e ▸ ht)]; exact h2
        · rw [putA_len, putA_get_ne (hp.ne e h1)]; exact h3
      · simp at hm; subst hm
        refine ⟨d, x, hd, ?_, ?_⟩
        · rw [hoff f fun t ht e => self_ok w4 d hd (e ▸ ht)]; exact hx
        · rw [putA_len, hd]; intro hlt; simp only [putA]; rw [List.getElem?_set_self hlt]
    run := hr }

theorem Hid.widen {c : Cfg} {b : Nat} {row : List AV} {k : Fk} {v : Value} {e : Ent} (h : Hid c b row k v) (he : e.b ≠ b) : Hid ⟨c.M, c.L ++ [e], c.w⟩ b row k v := by
  obtain ⟨vs, ty, h1, h2, h3, h4⟩ := h.ok
  refine ⟨fun x hx => ?_, h.mem, vs, ty, h1, h2, fun i x hx => ?_, h4⟩
  · rcases List.mem_append.1 hx with hx | hx
    · exact h.off x hx
    · simp at hx; subst hx; exact he
  · obtain ⟨u, hu, hr, ho⟩ := h3 i x hx
    exact ⟨u, hu, Rep.mono (fun _ _ _ h => h) hr (Ents.le_append _ _), ho⟩

/-- At its step in the plan a block that was laid ahead of it becomes somebody's. -/
theorem St.reveal (hc : certB ops C = true) {j : Nat} {pend : List Nat} {S : List PStep} (h : St G ops C K env ens σ U (.op j pend :: S) done seg hasH pa an E listed fuel) (hj : j ∈ E) {c0 c : Cfg} {a : Act} (hle : c0.Le c) (hs : Sim c σ)
    (he : RepL c.M c.L env a.tmps) (hE : Early G ops c0 c ens a E) :
    ∃ c' env' ens' σ' seg' hasH' pa', St G ops C K env' ens' σ' U S (j :: done) seg' hasH' pa' an (E.erase j) listed fuel ∧ c0.Le c' ∧ c'.M = c.M ∧ c'.w = c.w ∧ Sim c' σ' ∧ RepL c'.M c'.L env' a.tmps ∧ Early G ops c0 c' ens' a (E.erase j) := by
  obtain ⟨w1, w2, w3, w4, w5, w6⟩ := walk_head h.walk
  obtain ⟨seg', hasH', pa', w7⟩ := walk_next h.walk
  have hfr := h.anFresh (h.ES j hj).1
  have hjf := fresh_not_flt hfr
  simp only [hjf, Bool.false_eq_true, if_false] at w5
  obtain ⟨β, b1, b2⟩ := hE
  obtain ⟨row, k, v, d, q1, q2, q3, q4, q5⟩ := b2 j hj
  have hrun := h.run
  simp only [DrawRun, WantA, (fresh_guard hfr).1] at hrun
  obtain ⟨hr, hst⟩ := (opRun_fresh q1 hrun).out
  obtain ⟨e, e1, e2, e3, e4⟩ := q5.reveal hs hle q4
  have hnS := List.nodup_cons.1 h.nS
  have hjU : j ∉ U := fun hm => h.ns j hm (by simp [opsOf])
  have hmem : ∀ i, ((i ∈ U ∨ i ∈ opsOf (.op j pend :: S)) ∧ i ∉ E) ↔ ((i ∈ U ∨ i ∈ opsOf S) ∧ i ∉ E.erase j) := fun i => by
    simp only [opsOf, List.mem_cons, h.nE.mem_erase_iff]
    by_cases hij : i = j
    · subst hij
      simp [hj, hjU]
      exact hnS.1
    · simp [hij]
  have hlisted : ∀ f ∈ U, anc C j f = true → False := fun f hf ha =>
    anc_listed hc h.up (h.ult f hf).1 j w1 (h.up.up j w1 (fun hu => hu.2 hj)) ha ⟨.inl hf, fun hm => by
      have := (h.ult f hf).2.1
      rw [fresh_not_flt (h.anFresh (h.ES f hm).1)] at this
      cases this⟩
  have hpair : ∀ f ∈ U, PairOk ops C f j := fun f hf => pair_ok (h.ult f hf).2.1 (w3 f (h.udone f hf))
  refine ⟨⟨c.M, c.L ++ [e], c.w⟩, putA env (opd ops j).dst (k.ref σ.length), putA ens (opd ops j).dst (k.ref σ.length), σ ++ [.cells row 0], seg', hasH', pa', ?_, e2, rfl, rfl, e3, ?_, ?_⟩
  · exact {
      un := fun i hi => by rw [h.un i hi, hmem]
      size := h.size, nd := h.nd
      ns := fun i hi hm => h.ns i hi (by simp only [opsOf, List.mem_cons]; exact .inr hm)
      nS := hnS.2
      nE := h.nE.erase j
      ES := fun i hi => by
        obtain ⟨hij, hi⟩ := h.nE.mem_erase_iff.1 hi
        obtain ⟨h1, h2⟩ := h.ES i hi
        simp only [opsOf, List.mem_cons] at h2
        exact ⟨h1, h2.resolve_left hij⟩
      fuel := by
        have := h.fuel
        have := List.length_pos_of_mem hj
        rw [List.length_erase_of_mem hj]
        simp only [opsOf, List.length_cons] at *
        omega
      up := ⟨fun i hi hn e he => by rw [← hmem] at hn ⊢; exact h.up.up i hi hn e he⟩
      walk := w7
      udone := fun f hf => List.mem_cons_of_mem _ (h.udone f hf)
      ult := h.ult, upair := h.upair
      aok := fun i hi => by
        obtain ⟨done', q1, q2⟩ := h.aok i hi
        exact ⟨done', q1, fun g hg => List.mem_cons_of_mem _ (q2 g hg)⟩
      fr := fun i hi hS => by rw [h.frPut w1 w2 _ hi]; exact h.fr i hi (by simp [opsOf, hS])
      len := by rw [putA_len, putA_len]; exact h.len
      agree := fun t ht hE' => by
        by_cases htd : d = t
        · subst htd
          rw [q2]
          simp only [putA, List.getElem?_set, if_true, h.len]
        · exact putA_get_eq h.len (h.agree t ht fun i hi hdi => by
            by_cases hij : i = j
            · subst hij; rw [q2] at hdi; cases hdi; exact htd rfl
            · exact hE' i (h.nE.mem_erase_iff.2 ⟨hij, hi⟩) hdi)
      val := fun f hf => by
        obtain ⟨d', y, k1, k2, k3⟩ := h.val f hf
        have hp := List.all_eq_true.1 w5 f (h.udone f hf)
        simp only [(h.ult f hf).2.1, Bool.not_true, Bool.false_or, Bool.or_eq_true] at hp
        have hfoff : floatA G ops (opd ops f) (putA ens (opd ops j).dst (k.ref σ.length)) σ = floatA G ops (opd ops f) ens σ := floatA_off fun t ht => putA_get_ne fun e => (hpair f hf).fd t e ht
        rcases hp with (hp | hp) | hp
        · exact (hlisted f hf hp).elim
        · refine ⟨d', y, k1, ?_, ?_⟩
          · rw [floatA_still hp (σ' := σ), hfoff]; exact k2
          · rw [putA_len, putA_get_ne ((hpair f hf).ne d' k1)]; exact k3
        · have hst1 := hst f (by simpa using hp)
          unfold Stay1 at hst1
          split at hst1
          · rename_i z hz
            refine ⟨d', z, k1, hz, fun _ => ?_⟩
            rw [k1] at hst1
            exact hst1
          · cases hst1
      run := hr }
  · refine ⟨by rw [putA_len]; exact he.1, fun i x u hx hu => ?_⟩
    have hmono : ∀ {x : AV} {u : Value}, c.rep x u → Rep c.M (c.L ++ [e]) x u := fun hr => Rep.mono (fun _ _ _ h => h) hr (Ents.le_append _ _)
    by_cases hdi : d = i
    · subst hdi
      rw [q2] at hx
      simp only [putA] at hx
      rcases Nat.lt_or_ge d env.length with hlt | hge
      · rw [List.getElem?_set_self hlt] at hx
        cases hx
        rw [q3 u hu]
        exact e4
      · rw [List.getElem?_eq_none (by simpa using hge)] at hx
        cases hx
    · rw [putA_get_ne (by rw [q2]; exact fun e => hdi (by cases e; rfl))] at hx
      exact hmono (he.2 i x u hx hu)
  · refine ⟨β, fun i hi i' hi' => b1 i (h.nE.mem_erase_iff.1 hi).2 i' (h.nE.mem_erase_iff.1 hi').2, fun i hi => ?_⟩
    obtain ⟨hij, hiE⟩ := h.nE.mem_erase_iff.1 hi
    obtain ⟨row', k', v', d', p1, p2, p3, p4, p5⟩ := b2 i hiE
    exact ⟨row', k', v', d', by rw [h.frPut w1 w2 _ (h.ES i hiE).1]; exact p1, p2, p3, p4, p5.widen fun hh => hij (b1 i hiE j hj (by rw [← hh, e1]))⟩
end

/-- What is ready, of what is not yet done. -/
theorem St.ready {G : Prg} {ops : Array Oper} {C : List Nat} {K : List AV → Heap → Prop} {env ens : List AV} {σ : Heap} {U : List Nat} {S : List PStep} {done seg : List Nat} {hasH : Bool} {pa an E : List Nat} {listed : Array Bool} {fuel : Nat}
    (hc : certB ops C = true) (h : St G ops C K env ens σ U S done seg hasH pa an E listed fuel) (i : Nat) :
    i ∈ Region.ready .any ops listed ↔ i < ops.size ∧ ((i ∈ U ∨ i ∈ opsOf S) ∧ i ∉ E) ∧ ∀ e ∈ edgesB (opd ops i), ¬ ((e ∈ U ∨ e ∈ opsOf S) ∧ e ∉ E) := by
  rw [mem_ready]
  constructor
  · rintro ⟨h1, o, h2, h3⟩
    have hi : i < ops.size := (Array.getElem?_eq_some_iff.1 h2).1
    have ho : o = opd ops i := by simp [opd, h2]
    subst ho
    refine ⟨hi, (h.un i hi).1 h1, fun e he hu => ?_⟩
    obtain ⟨x, hx, hb, rfl⟩ := edge_mem.1 he
    have hl := getD_true (h3 x hx hb)
    have hlt : x.on < ops.size := by
      have := h3 x hx hb
      simp only [Array.getD_eq_getD_getElem?] at this
      rcases Nat.lt_or_ge x.on listed.size with hh | hh
      · rw [← h.size]; exact hh
      · rw [Array.getElem?_eq_none hh] at this; cases this
    rw [(h.un _ hlt).2 hu] at hl
    cases hl
  · rintro ⟨hi, h1, h2⟩
    refine ⟨(h.un i hi).2 h1, opd ops i, opd_get hi, fun x hx hb => ?_⟩
    have hn := h2 x.on (edge_mem.2 ⟨x, hx, hb, rfl⟩)
    have hlt : x.on < ops.size := Nat.lt_trans ((cert_edge hc hi).1 _ (edge_mem.2 ⟨x, hx, hb, rfl⟩)) hi
    exact getD_false (by rw [h.size]; exact hlt) (fun hf => hn ((h.un _ hlt).1 hf))

/-- One step: whoever is ready. -/
theorem any_step {G : Prg} {ops : Array Oper} {C : List Nat} (hc : certB ops C = true) {ro : Option Nat} {Q : Exit → Act → World → Prop} {K : List AV → Heap → Prop} {c0 : Cfg} {dfs : List Deferred} {fuel : Nat}
    (ih : ∀ (S : List PStep) (U done seg : List Nat) (hasH : Bool) (pa an E : List Nat) (env ens : List AV) (σ : Heap) (listed : Array Bool) (c : Cfg) (a : Act), St G ops C K env ens σ U S done seg hasH pa an E listed fuel →
      c0.Le c → GOk G c.M → Sim c σ → RepL c.M c.L env a.tmps → a.defers = dfs → Early G ops c0 c ens a E → wpAnyIn (Fw ro) 0 G.P .any ops Q fuel listed a c.w)
    (S : List PStep) (U done seg : List Nat) (hasH : Bool) (pa an E : List Nat) (env ens : List AV) (σ : Heap) (listed : Array Bool) (c : Cfg) (a : Act)
    (hS : S = [] ∨ ∃ j pend S', S = .op j pend :: S' ∧ flt (opd ops j) = false ∧ j ∉ E)
    (h : St G ops C K env ens σ U S done seg hasH pa an E listed (fuel + 1)) (hle : c0.Le c) (hG : GOk G c.M) (hs : Sim c σ) (he : RepL c.M c.L env a.tmps) (hd : a.defers = dfs) (hE : Early G ops c0 c ens a E) : wpAnyIn (Fw ro) 0 G.P .any ops Q (fuel + 1) listed a c.w := by
  have hput : ∀ (o : Oper) v, (a.put o.dst v).defers = a.defers := fun o v => by cases o.dst <;> rfl
  have hUE : ∀ f ∈ U, f ∉ E := fun f hf hm => by
    have := (h.ult f hf).2.1
    rw [fresh_not_flt (h.anFresh (h.ES f hm).1)] at this
    cases this
  refine ⟨fun hr => ?_, fun i hi => ?_⟩
  · exfalso
    have hex : ∃ i, i < ops.size ∧ ((i ∈ U ∨ i ∈ opsOf S) ∧ i ∉ E) := by
      cases U with
      | cons i U => exact ⟨i, (h.ult i (by simp)).1, .inl (by simp), hUE i (by simp)⟩
      | nil =>
        rcases hS with rfl | ⟨j, pend, S', rfl, h1, h2⟩
        · have := h.fuel
          have hEn : E = [] := by
            cases E with
            | nil => rfl
            | cons x E => have := (h.ES x (by simp)).2; cases this
          subst hEn
          simp [opsOf] at this
        · exact ⟨j, (walk_head h.walk).1, .inr (by simp [opsOf]), h2⟩
    obtain ⟨i, hi, hu⟩ := hex
    obtain ⟨k, h1, h2, h3⟩ := some_ready hc (un := fun i => (i ∈ U ∨ i ∈ opsOf S) ∧ i ∉ E) i hi hu
    have := (h.ready hc k).2 ⟨h1, h2, h3⟩
    rw [hr] at this
    cases this
  · obtain ⟨hlt, ⟨hmem, hiE⟩, hedge⟩ := (h.ready hc i).1 hi
    have hlisted : ∀ k, k < ops.size → anc C i k = true → ¬ ((k ∈ U ∨ k ∈ opsOf S) ∧ k ∉ E) := fun k hk ha => anc_listed hc h.up hk i hlt hedge ha
    have hil : i < listed.size := by rw [h.size]; exact hlt
    by_cases hU : i ∈ U
    · -- a float that waited
      obtain ⟨d, y, hdst, hval, hset⟩ := h.val i hU
      have hfl := (h.ult i hU).2.1
      have hiS := h.ns i hU
      have hEoff : ∀ j ∈ E, ∀ t, (opd ops j).dst = some t → (opd ops i).dst ≠ some t ∧ t ∉ (opd ops i).looksAt ops := fun j hj t ht =>
        off_ok (walk_off S _ _ _ _ _ h.walk (h.ES j hj).1 (h.ES j hj).2 i (h.udone i hU)) ht
      have hoff : ∀ t ∈ (opd ops i).looksAt ops, env[t]? = ens[t]? := fun t ht => h.agree t (fun f hf hdf => by
        by_cases hfi : f = i
        · subst hfi; exact self_ok (h.ult f hf).2.2 t hdf ht
        · rcases h.upair f hf i hU hfi with hp | hp
          · exact hlisted f (h.ult f hf).1 (hp.fi t hdf ht) ⟨.inl hf, hUE f hf⟩
          · exact hp.fd t hdf ht) (fun j hj hdj => (hEoff j hj t hdj).2 ht)
      have hw := wantA_of_flt (K := fun x s => s = σ ∧ x = y) hfl ((floatA_off hoff).trans hval) ⟨rfl, rfl⟩
      have hnext : ∀ (c' : Cfg) (v : Value), c.Le c' → Sim c' σ → c'.rep y v → wpAnyIn (Fw ro) 0 G.P .any ops Q fuel (listed.setIfInBounds i true) (a.put (opd ops i).dst v) c'.w := fun c' v q1 q2 q3 => by
        refine ih S (U.erase i) done seg hasH pa an E (putA env (opd ops i).dst y) ens σ _ c' _ ?_ (hle.trans q1) (GOk.mono q1.mem hG) q2 (putA_rep (RepL.mono q1 he) q3) (by rw [hput]; exact hd)
          (hE.mono q1 (fun _ _ => rfl) fun j hj t ht => put_tmps (hEoff j hj t ht).1)
        have hmem' : ∀ k, ((k ∈ U.erase i ∨ k ∈ opsOf S) ∧ k ∉ E) ↔ (k ≠ i ∧ ((k ∈ U ∨ k ∈ opsOf S) ∧ k ∉ E)) := fun k => by
          rw [h.nd.mem_erase_iff]
          constructor
          · rintro ⟨⟨h1, h2⟩ | h1, h3⟩
            · exact ⟨h1, .inl h2, h3⟩
            · exact ⟨fun e => hiS (e ▸ h1), .inr h1, h3⟩
          · rintro ⟨h1, h2 | h2, h3⟩
            · exact ⟨.inl ⟨h1, h2⟩, h3⟩
            · exact ⟨.inr h2, h3⟩
        exact {
          un := fun k hk => by rw [getD_set hil, h.un k hk, hmem']
          size := by rw [Array.size_setIfInBounds]; exact h.size
          nd := h.nd.erase i
          ns := fun k hk => h.ns k (List.mem_of_mem_erase hk)
          nS := h.nS, nE := h.nE, ES := h.ES
          fuel := by have := h.fuel; rw [List.length_erase_of_mem hU]; have := List.length_pos_of_mem hU; omega
          up := ⟨fun k hk hn e hee hu => by
            rw [hmem'] at hu
            by_cases hki : k = i
            · subst hki; exact hedge e hee hu.2
            · exact h.up.up k hk (fun hm => hn ((hmem' k).2 ⟨hki, hm⟩)) e hee hu.2⟩
          walk := h.walk
          udone := fun f hf => h.udone f (List.mem_of_mem_erase hf)
          ult := fun f hf => h.ult f (List.mem_of_mem_erase hf)
          upair := fun f hf g hg => h.upair f (List.mem_of_mem_erase hf) g (List.mem_of_mem_erase hg)
          aok := h.aok, fr := h.fr
          len := by rw [putA_len]; exact h.len
          agree := fun t ht hEt => by
            by_cases htd : d = t
            · subst htd
              rw [hdst]
              simp only [putA]
              rcases Nat.lt_or_ge d env.length with hlt | hge
              · rw [List.getElem?_set_self hlt, hset (by rw [← h.len]; exact hlt)]
              · rw [List.getElem?_eq_none (by simpa using hge), List.getElem?_eq_none (by rw [← h.len]; exact hge)]
            · rw [putA_get_ne (by rw [hdst]; exact fun e => htd (by cases e; rfl))]
              refine h.agree t (fun f hf hdf => ?_) hEt
              by_cases hfi : f = i
              · subst hfi; rw [hdst] at hdf; cases hdf; exact htd rfl
              · exact ht f (h.nd.mem_erase_iff.2 ⟨hfi, hf⟩) hdf
          val := fun f hf => h.val f (List.mem_of_mem_erase hf)
          run := h.run }
      unfold wpOpIn
      simp only [opd_get hlt]
      have hw := want_ok hw he
      split at hw
      · rename_i hwt
        rw [if_pos hwt]
        refine op_ok hw hG hs he (fun c' x v σ' h1 h2 h3 h4 => ?_)
        obtain ⟨rfl, rfl⟩ := h4
        exact hnext c' v h1 h2 h3
      · rename_i hwt
        rw [if_neg hwt]
        refine ⟨fun _ _ => trivial, ?_⟩
        obtain ⟨_, rfl⟩ := hw
        exact hnext c undef (Cfg.Le.refl c) hs (.tup rfl (fun i h => by cases h))
    · have hiS : i ∈ opsOf S := hmem.resolve_left hU
      by_cases hia : i ∈ an
      · -- a new block, ahead of the plan
        obtain ⟨done', hA, hAd⟩ := h.aok i hia
        obtain ⟨d, hdst⟩ := (fresh_guard hA.fr).2
        have hSd := (walk_nodup S _ _ _ _ _ h.walk).2
        have hoff : ∀ t ∈ (opd ops i).looksAt ops, env[t]? = ens[t]? := fun t ht => h.agree t
          (fun f hf hdf => hlisted f (h.ult f hf).1 (hA.sees f (h.ult f hf).1 t hdf ht).1 ⟨.inl hf, hUE f hf⟩)
          (fun j hj hdj => by
            obtain ⟨_, hB, _⟩ := h.aok j (h.ES j hj).1
            exact hSd j (h.ES j hj).2 (hAd j (hA.sees j hB.lt t hdj ht).2))
        have hfr := h.fr i hia hiS
        obtain ⟨⟨row, k⟩, hrow⟩ := Option.isSome_iff_exists.1 hfr
        have hrow' := hrow
        rw [← freshA_off hoff] at hrow'
        obtain ⟨c', v, hrun, hf1⟩ := fresh_exec hG hs he hrow'
        obtain ⟨q1, q2, q3⟩ := Hid.make hs hf1
        unfold wpOpIn
        simp only [opd_get hlt]
        have hw := want_ok (X := True) (Y := False) (o := opd ops i) (ops := ops) (env := env) (by unfold WantA; rw [(fresh_guard hA.fr).1]; trivial) he
        split at hw
        case isFalse => exact hw.elim
        case isTrue hwt =>
          rw [if_pos hwt]
          refine ⟨fun _ _ => trivial, ?_⟩
          rw [Oper.semAt_plain (Fw ro) _ _ (fun cl hcl => by have := hA.fr; simp [fresh, hcl] at this), hrun]
          show wpAnyIn (Fw ro) 0 G.P .any ops Q fuel (listed.setIfInBounds i true) (a.put (opd ops i).dst v) c'.w
          refine ih S U done seg hasH pa an (i :: E) (putA env (opd ops i).dst .any) ens σ _ ⟨c.M, c.L, c'.w⟩ _ ?_ (hle.trans q1) hG q2 (putA_rep (RepL.mono q1 he) (.any v)) (by rw [hput]; exact hd) ?_
          · have hmem' : ∀ k, ((k ∈ U ∨ k ∈ opsOf S) ∧ k ∉ i :: E) ↔ (k ≠ i ∧ ((k ∈ U ∨ k ∈ opsOf S) ∧ k ∉ E)) := fun k => by
              simp only [List.mem_cons, not_or]
              constructor
              · rintro ⟨h1, h2, h3⟩; exact ⟨h2, h1, h3⟩
              · rintro ⟨h1, h2, h3⟩; exact ⟨h2, h1, h3⟩
            exact {
              un := fun k hk => by rw [getD_set hil, h.un k hk, hmem']
              size := by rw [Array.size_setIfInBounds]; exact h.size
              nd := h.nd, ns := h.ns, nS := h.nS
              nE := List.nodup_cons.2 ⟨hiE, h.nE⟩
              ES := fun x hx => by
                rcases List.mem_cons.1 hx with rfl | hx
                · exact ⟨hia, hiS⟩
                · exact h.ES x hx
              fuel := by have := h.fuel; simp only [List.length_cons]; omega
              up := ⟨fun k hk hn e hee hu => by
                rw [hmem'] at hu
                by_cases hki : k = i
                · subst hki; exact hedge e hee hu.2
                · exact h.up.up k hk (fun hm => hn ((hmem' k).2 ⟨hki, hm⟩)) e hee hu.2⟩
              walk := h.walk, udone := h.udone, ult := h.ult, upair := h.upair, aok := h.aok, fr := h.fr
              len := by rw [putA_len]; exact h.len
              agree := fun t ht hEt => by
                rw [putA_get_ne (hEt i (by simp))]
                exact h.agree t ht fun x hx => hEt x (by simp [hx])
              val := h.val, run := h.run }
          · obtain ⟨β, b1, b2⟩ := hE
            have hblt : ∀ j ∈ E, β j < c.w.heap.size := fun j hj => by
              obtain ⟨_, _, _, _, _, _, _, _, p5⟩ := b2 j hj
              exact p5.lt
            refine ⟨fun x => if x = i then c.w.heap.size else β x, fun x hx y hy hxy => ?_, fun x hx => ?_⟩
            · simp only at hxy
              rcases List.mem_cons.1 hx with hx1 | hx1 <;> rcases List.mem_cons.1 hy with hy1 | hy1
              · rw [hx1, hy1]
              · have hyi : y ≠ i := fun e => hiE (e ▸ hy1)
                rw [if_pos hx1, if_neg hyi] at hxy
                have := hblt y hy1; omega
              · have hxi : x ≠ i := fun e => hiE (e ▸ hx1)
                rw [if_neg hxi, if_pos hy1] at hxy
                have := hblt x hx1; omega
              · have hxi : x ≠ i := fun e => hiE (e ▸ hx1)
                have hyi : y ≠ i := fun e => hiE (e ▸ hy1)
                rw [if_neg hxi, if_neg hyi] at hxy
                exact b1 x hx1 y hy1 hxy
            · rcases List.mem_cons.1 hx with rfl | hx
              · refine ⟨row, k, v, d, hrow, hdst, fun u hu => ?_, by simp only [if_true]; exact hle.size, by simp only [if_true]; exact q3⟩
                rw [hdst] at hu
                simp only [Act.put] at hu
                rw [Array.getElem?_setIfInBounds] at hu
                simp only [if_true] at hu
                split at hu
                · cases hu; rfl
                · cases hu
              · have hxi : x ≠ i := fun e => hiE (e ▸ hx)
                obtain ⟨row', k', v', d', p1, p2, p3, p4, p5⟩ := b2 x hx
                refine ⟨row', k', v', d', p1, p2, fun u hu => ?_, by simp only [hxi, if_false]; exact p4, by simp only [hxi, if_false]; exact p5.mono q1⟩
                rw [put_tmps (walk_two (Ne.symm hxi) p2 (by rw [hdst]; simp) S _ _ _ _ _ h.walk hia (h.ES x hx).1 hiS (h.ES x hx).2)] at hu
                exact p3 u hu
      · -- the plan's head
        rcases hS with rfl | ⟨j, pend, S', rfl, hjf, hjE⟩
        · cases hiS
        · obtain ⟨w1, w2, w3, w4, w5, _⟩ := walk_head h.walk
          obtain ⟨seg', hasH', pa', w6⟩ := walk_next h.walk
          simp only [hjf, Bool.false_eq_true, if_false] at w5
          have hij : i = j := by
            simp only [opsOf, List.mem_cons] at hiS
            rcases hiS with hiS | hiS
            · exact hiS
            · exfalso
              obtain ⟨e, hee, hm⟩ := walk_waits h.walk hjf i hiS hia
              rcases hm with hm | ⟨hm1, hm2⟩
              · simp at hm; subst hm
                exact hedge e hee ⟨.inr (by simp [opsOf]), hjE⟩
              · exact hedge e hee ⟨.inr (by simp [opsOf, hm1]), fun hx => hm2 (h.ES e hx).1⟩
          subst hij
          have hESi : ∀ x ∈ E, x ∈ opsOf S' := fun x hx => by
            have := (h.ES x hx).2
            simp only [opsOf, List.mem_cons] at this
            exact this.resolve_left fun e => hiE (e ▸ hx)
          have hEoff : ∀ x ∈ E, ∀ t, (opd ops x).dst = some t → (opd ops i).dst ≠ some t ∧ t ∉ (opd ops i).looksAt ops := fun x hx t ht =>
            off_ok (walk_off S' _ _ _ _ _ w6 (h.ES x hx).1 (hESi x hx) i (List.mem_cons_self ..)) ht
          have hpair : ∀ f ∈ U, PairOk ops C f i := fun f hf => pair_ok (h.ult f hf).2.1 (w3 f (h.udone f hf))
          have hoff : ∀ t ∈ (opd ops i).looksAt ops, env[t]? = ens[t]? := fun t ht => h.agree t (fun f hf hdf =>
            hlisted f (h.ult f hf).1 ((hpair f hf).fi t hdf ht) ⟨.inl hf, hUE f hf⟩) (fun x hx hdx => (hEoff x hx t hdx).2 ht)
          have hw := h.run
          simp only [DrawRun] at hw
          rw [← wantA_off hoff, ← opRun_off hoff] at hw
          have hnS := List.nodup_cons.1 h.nS
          have hmem' : ∀ k, ((k ∈ U ∨ k ∈ opsOf S') ∧ k ∉ E) ↔ (k ≠ i ∧ ((k ∈ U ∨ k ∈ opsOf (.op i pend :: S')) ∧ k ∉ E)) := fun k => by
            simp only [opsOf, List.mem_cons]
            constructor
            · rintro ⟨h1 | h1, h3⟩
              · exact ⟨fun e => hU (e ▸ h1), .inl h1, h3⟩
              · exact ⟨fun e => hnS.1 (e ▸ h1), .inr (.inr h1), h3⟩
            · rintro ⟨h1, h2 | h2 | h2, h3⟩
              · exact ⟨.inl h2, h3⟩
              · exact absurd h2 h1
              · exact ⟨.inr h2, h3⟩
          have hfoff : ∀ f ∈ U, ∀ (x : AV) (s : Heap), floatA G ops (opd ops f) (putA ens (opd ops i).dst x) s = floatA G ops (opd ops f) ens s := fun f hf x s =>
            floatA_off fun t ht => putA_get_ne fun e => (hpair f hf).fd t e ht
          have hnext : ∀ (c' : Cfg) (x : AV) (v : Value) (s : Heap), c.Le c' → Sim c' s → c'.rep x v → DrawRun G ops S' (putA ens (opd ops i).dst x) s K →
              (∀ f ∈ U, ∃ d y, (opd ops f).dst = some d ∧ floatA G ops (opd ops f) (putA ens (opd ops i).dst x) s = some y ∧ (d < (putA ens (opd ops i).dst x).length → (putA ens (opd ops i).dst x)[d]? = some y)) →
              wpAnyIn (Fw ro) 0 G.P .any ops Q fuel (listed.setIfInBounds i true) (a.put (opd ops i).dst v) c'.w := fun c' x v s q1 q2 q3 q4 q5 => by
            refine ih S' U (i :: done) seg' hasH' pa' an E (putA env (opd ops i).dst x) (putA ens (opd ops i).dst x) s _ c' _ ?_ (hle.trans q1) (GOk.mono q1.mem hG) q2 (putA_rep (RepL.mono q1 he) q3) (by rw [hput]; exact hd)
              (hE.mono q1 (fun x' hx' => h.frPut w1 w2 x (h.ES x' hx').1) fun x' hx' t ht => put_tmps (hEoff x' hx' t ht).1)
            exact {
              un := fun k hk => by rw [getD_set hil, h.un k hk, hmem']
              size := by rw [Array.size_setIfInBounds]; exact h.size
              nd := h.nd
              ns := fun k hk hm => h.ns k hk (by simp only [opsOf, List.mem_cons]; exact .inr hm)
              nS := hnS.2
              nE := h.nE
              ES := fun x hx => ⟨(h.ES x hx).1, hESi x hx⟩
              fuel := by have := h.fuel; simp [opsOf] at this; omega
              up := ⟨fun k hk hn e hee hu => by
                rw [hmem'] at hu
                by_cases hki : k = i
                · subst hki; exact hedge e hee hu.2
                · exact h.up.up k hk (fun hm => hn ((hmem' k).2 ⟨hki, hm⟩)) e hee hu.2⟩
              walk := w6
              udone := fun f hf => List.mem_cons_of_mem _ (h.udone f hf)
              ult := h.ult
              upair := h.upair
              aok := fun x hx => by
                obtain ⟨done', r1, r2⟩ := h.aok x hx
                exact ⟨done', r1, fun g hg => List.mem_cons_of_mem _ (r2 g hg)⟩
              fr := fun x' hx' hS' => by rw [h.frPut w1 w2 x hx']; exact h.fr x' hx' (by simp [opsOf, hS'])
              len := by rw [putA_len, putA_len]; exact h.len
              agree := fun t ht hEt => putA_get_eq h.len (h.agree t ht hEt)
              val := q5
              run := q4 }
          unfold wpOpIn
          simp only [opd_get hlt]
          have hw := want_ok hw he
          split at hw
          · rename_i hwt
            rw [if_pos hwt]
            refine op_ok hw hG hs he (fun c' x v σ' h1 h2 h3 h4 => ?_)
            obtain ⟨h4, h5⟩ := h4.out
            refine hnext c' x v σ' h1 h2 h3 h4 fun f hf => ?_
            obtain ⟨d, y, k1, k2, k3⟩ := h.val f hf
            have hp := List.all_eq_true.1 w5 f (h.udone f hf)
            simp only [(h.ult f hf).2.1, Bool.not_true, Bool.false_or, Bool.or_eq_true] at hp
            rcases hp with (hp | hp) | hp
            · exact absurd ⟨.inl hf, hUE f hf⟩ (hlisted f (h.ult f hf).1 hp)
            · refine ⟨d, y, k1, ?_, ?_⟩
              · rw [hfoff f hf, floatA_still hp (σ' := σ)]; exact k2
              · rw [putA_len, putA_get_ne ((hpair f hf).ne d k1)]; exact k3
            · have hst := h5 f (by simpa using hp)
              unfold Stay1 at hst
              split at hst
              · rename_i z hz
                refine ⟨d, z, k1, hz, fun _ => ?_⟩
                rw [k1] at hst
                exact hst
              · cases hst
          · rename_i hwt
            rw [if_neg hwt]
            refine ⟨fun _ _ => trivial, ?_⟩
            refine hnext c (.tup []) undef σ (Cfg.Le.refl c) hs (.tup rfl (fun i h => by cases h)) hw fun f hf => ?_
            obtain ⟨d, y, k1, k2, k3⟩ := h.val f hf
            refine ⟨d, y, k1, ?_, ?_⟩
            · rw [hfoff f hf]; exact k2
            · rw [putA_len, putA_get_ne ((hpair f hf).ne d k1)]; exact k3

theorem any_ok {G : Prg} {ops : Array Oper} {C : List Nat} (hc : certB ops C = true) {ro : Option Nat} {Q : Exit → Act → World → Prop} {K : List AV → Heap → Prop} {c0 : Cfg} {dfs : List Deferred}
    (hk : ∀ c' env' σ' a', c0.Le c' → Sim c' σ' → RepL c'.M c'.L env' a'.tmps → a'.defers = dfs → K env' σ' → Q .normal a' c'.w) :
    ∀ (fuel : Nat) (S : List PStep) (U done seg : List Nat) (hasH : Bool) (pa an E : List Nat) (env ens : List AV) (σ : Heap) (listed : Array Bool) (c : Cfg) (a : Act), St G ops C K env ens σ U S done seg hasH pa an E listed fuel →
      c0.Le c → GOk G c.M → Sim c σ → RepL c.M c.L env a.tmps → a.defers = dfs → Early G ops c0 c ens a E → wpAnyIn (Fw ro) 0 G.P .any ops Q fuel listed a c.w := by
  intro fuel
  induction fuel with
  | zero =>
    intro S
    induction S with
    | nil =>
      intro U done seg hasH pa an E env ens σ listed c a h hle hG hs he hd hE
      have hEn : E = [] := by
        cases E with
        | nil => rfl
        | cons x E => have := (h.ES x (by simp)).2; cases this
      subst hEn
      have hU : U = [] := List.eq_nil_of_length_eq_zero (by have := h.fuel; simp [opsOf] at this; omega)
      subst hU
      refine ⟨?_, ?_⟩
      · cases hr : Region.ready .any ops listed with
        | nil => rfl
        | cons i l =>
          have := (h.ready hc i).1 (by rw [hr]; exact List.mem_cons_self ..)
          rcases this.2.1.1 with h | h <;> cases h
      · have henv : env = ens := List.ext_getElem? fun t => h.agree t (fun f hf => by cases hf) (fun f hf => by cases hf)
        subst henv
        exact hk c env σ a hle hs he hd h.run
    | cons st S ihS =>
      intro U done seg hasH pa an E env ens σ listed c a h hle hG hs he hd hE
      cases st with
      | ann j => exact ihS _ _ _ _ _ _ _ _ _ _ _ _ _ h.annA hle hG hs he hd hE
      | op j pend =>
        cases hf : flt (opd ops j) with
        | true =>
          obtain ⟨ens', h', hfr⟩ := h.adv hf
          exact ihS _ _ _ _ _ _ _ _ _ _ _ _ _ h' hle hG hs he hd (hE.mono (Cfg.Le.refl c) (fun i hi => hfr i (h.ES i hi).1) (fun _ _ _ _ => rfl))
        | false =>
          by_cases hjE : j ∈ E
          · obtain ⟨c', env', ens', σ', seg', hasH', pa', r1, r2, r3, r4, r5, r6, r7⟩ := h.reveal hc hjE hle hs he hE
            rw [← r4]
            exact ihS _ _ _ _ _ _ _ _ _ _ _ _ _ r1 r2 (by rw [r3]; exact hG) r5 r6 hd r7
          · exfalso
            have h1 := h.fuel
            have h2 := nodup_len (l := E) (m := opsOf S) h.nE fun x hx => by
              have := (h.ES x hx).2
              simp only [opsOf, List.mem_cons] at this
              exact this.resolve_left fun e => hjE (e ▸ hx)
            simp only [opsOf, List.length_cons] at h1
            omega
  | succ fuel ih =>
    intro S
    induction S with
    | nil =>
      intro U done seg hasH pa an E env ens σ listed c a h hle hG hs he hd hE
      exact any_step hc ih [] U done seg hasH pa an E env ens σ listed c a (.inl rfl) h hle hG hs he hd hE
    | cons st S ihS =>
      intro U done seg hasH pa an E env ens σ listed c a h hle hG hs he hd hE
      cases st with
      | ann j => exact ihS _ _ _ _ _ _ _ _ _ _ _ _ _ h.annA hle hG hs he hd hE
      | op j pend =>
        cases hf : flt (opd ops j) with
        | true =>
          obtain ⟨ens', h', hfr⟩ := h.adv hf
          exact ihS _ _ _ _ _ _ _ _ _ _ _ _ _ h' hle hG hs he hd (hE.mono (Cfg.Le.refl c) (fun i hi => hfr i (h.ES i hi).1) (fun _ _ _ _ => rfl))
        | false =>
          by_cases hjE : j ∈ E
          · obtain ⟨c', env', ens', σ', seg', hasH', pa', r1, r2, r3, r4, r5, r6, r7⟩ := h.reveal hc hjE hle hs he hE
            rw [← r4]
            exact ihS _ _ _ _ _ _ _ _ _ _ _ _ _ r1 r2 (by rw [r3]; exact hG) r5 r6 hd r7
          · exact any_step hc ih _ U done seg hasH pa an E env ens σ listed c a (.inr ⟨j, pend, S, rfl, hf, hjE⟩) h hle hG hs he hd hE

theorem draw_ok {G : Prg} {id : Nat} {ops : Array Oper} {pl : List PStep} (hp : planB ops pl = true) {env : List AV} {σ : Heap} {K : Exit → List AV → Heap → Prop} (h : DrawRun G ops pl env σ (K .normal)) : Run G (.region id ops true) env σ K := by
  intro ro B c a ⟨hG, hs, hr, he, hd, hB⟩
  simp only [planB, Bool.and_eq_true] at hp
  obtain ⟨⟨⟨p1, p2⟩, p3⟩, p4⟩ := hp
  have p2 : (opsOf pl).length = ops.size := by simpa using p2
  obtain ⟨n1, n2⟩ := walk_nodup _ _ _ _ _ _ p4
  refine wpIn_region_any G.mix ?_
  have hle : c.Le ⟨c.M, c.L, { c.w with drawn := c.w.drawn + 1 }⟩ := ⟨fun _ _ _ h => h, Ents.le_refl _, Nat.le_refl _, fun _ _ _ => rfl, fun e h => .inl ⟨e, h, rfl⟩, fun _ _ h => absurd rfl h, rfl, rfl, fun _ r h => ⟨r, h, rfl⟩⟩
  have hs' : Sim ⟨c.M, c.L, { c.w with drawn := c.w.drawn + 1 }⟩ σ := ⟨hs.len, (fun b o v hM => hs.prot b o v hM), hs.lt, (fun id e k h1 h2 => hs.blk id e k h1 h2), hs.inj⟩
  refine any_ok (c0 := c) (dfs := a.defers) p1 (K := K .normal) (fun c' env' σ' a' q1 q2 q3 q4 q5 => ⟨c', env', σ', rfl, q1, q2, q3, by rw [q4]; exact hd.mono q1, q5⟩) ops.size pl [] [] [] false [] [] [] env env σ _ ⟨c.M, c.L, { c.w with drawn := c.w.drawn + 1 }⟩ a ?_ hle hG hs' he rfl
    ⟨fun x => x, (fun i hi => by cases hi), (fun i hi => by cases hi)⟩
  exact {
    un := fun i hi => by
      have := List.all_eq_true.1 p3 i (List.mem_range.2 hi)
      simp only [Array.getD_eq_getD_getElem?, hi, Array.getElem?_replicate, if_true, Option.getD_some, true_iff]
      exact ⟨.inr (by simpa using this), by simp⟩
    size := by simp
    nd := by simp
    ns := fun i hi => by cases hi
    nS := n1
    nE := by simp
    ES := fun i hi => by cases hi
    fuel := by simp [p2]
    up := ⟨fun i hi hn => by
      have := List.all_eq_true.1 p3 i (List.mem_range.2 hi)
      exact absurd ⟨.inr (by simpa using this), by simp⟩ hn⟩
    walk := p4
    udone := fun f hf => by cases hf
    ult := fun f hf => by cases hf
    upair := fun f hf => by cases hf
    aok := fun i hi => by cases hi
    fr := fun i hi => by cases hi
    len := rfl
    agree := fun t _ _ => rfl
    val := fun f hf => by cases hf
    run := h }

theorem WantA.mono {ops : Array Oper} {o : Oper} {env : List AV} {X Y X' Y' : Prop} (hx : X → X') (hy : Y → Y') (h : WantA ops o env X Y) : WantA ops o env X' Y' := by
  unfold WantA at *
  split at h
  · exact hx h
  · split at h
    · rename_i b hb
      revert h
      cases hq : (b == _) <;> simp only [Br_true, Br_false] <;> first | exact hx | exact hy
    · exact hy h
    · cases h

theorem OpRun.mono {G : Prg} {o : Oper} {env : List AV} {σ : Heap} {K K' : AV → Heap → Prop} (hk : ∀ x s, K x s → K' x s) (h : OpRun G o env σ K) : OpRun G o env σ K' := by
  unfold OpRun at *
  split at h
  · unfold CallA at *
    split at h
    · split at h
      · split at h
        · exact hk _ _ h
        · cases h
      · cases h
    · split at h
      · exact ⟨h.1, h.2.mono hk⟩
      · exact fun c v vs h1 h2 h3 h4 => by
          obtain ⟨l, f, tmps, as, body, q1, q2, q3⟩ := h c v vs h1 h2 h3 h4
          exact ⟨l, f, tmps, as, body, q1, q2, RoundIn.mono q3 fun e w' ⟨c', v, r, s, p1, p2, p3, p4, p5, p6⟩ => ⟨c', v, r, s, p1, p2, p3, p4, p5, hk _ _ p6⟩⟩
      · cases h
    · cases h
  · split at h
    · exact hk _ _ h
    · cases h

theorem drawRun_of_ops' {G : Prg} {ops : Array Oper} {K : List AV → Heap → Prop} : ∀ (is : List Nat) (env : List AV) (σ : Heap), OpsRun G ops (is.map (opd ops)) env σ K → DrawRun G ops (is.map (.op · [])) env σ K
  | [], env, σ, h => h
  | i :: is, env, σ, h => by
    simp only [List.map_cons, OpsRun] at h
    simp only [List.map_cons, DrawRun, Stay]
    exact WantA.mono (fun h => OpRun.mono (fun x s h => drawRun_of_ops' is _ _ h) h) (fun h => drawRun_of_ops' is _ _ h) h

theorem range_opd (ops : Array Oper) : (List.range ops.size).map (opd ops) = ops.toList := by
  apply List.ext_getElem?
  intro i
  simp only [List.getElem?_map]
  by_cases hi : i < ops.size
  · simp [hi, opd]
  · simp [hi]

theorem drawRun_of_ops {G : Prg} {ops : Array Oper} {K : List AV → Heap → Prop} {env : List AV} {σ : Heap} (h : OpsRun G ops ops.toList env σ K) : DrawRun G ops ((List.range ops.size).map (.op · [])) env σ K :=
  drawRun_of_ops' _ _ _ (by rw [range_opd]; exact h)

end Go.Tl
