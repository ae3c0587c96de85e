/- The abstract values and heaps, what they stand for in the model's memory, and how a configuration may grow. -/
import Derived.RangeFuncIn
import Derived.OrdersIn
import Derived.RangeFuncLeaves
import Derived.WalkKit
namespace Go.Tl

/-- Abstract values. -/
inductive AV where
  | bool (b : Bool)
  | int (k : IntKind) (n : Int)
  | str (s : ByteArray)
  | nilp
  | ptr (id g off : Nat)
  | fptr (row : List AV) (off : Nat)
  | nils
  | es
  | eu
  | sl (id g off len sz : Nat)
  | fs (row : List AV) (len : Nat)
  | nilm
  | mp (id : Nat)
  | fn (f : FuncId) (first cap : List AV)
  | yl (id : Nat)
  | nilf
  | ifc (t : TypeId) (v : AV)
  | nili
  | agg (cs : List AV)
  | tup (vs : List AV)
  | any
  deriving Inhabited

/-- A live block's entry: its block in memory, its generation, how many cells are in use, how many there are. -/
structure Ent where
  b : Nat
  g : Nat
  used : Nat
  cs : Nat

abbrev Mem := Nat → Nat → Option Value

def oneCell : Value → Prop
  | .agg _ => False
  | .tuple _ => False
  | _ => True

/-- What an abstract value stands for. -/
inductive Rep (M : Mem) : List Ent → AV → Value → Prop
  | bool {L} (b) : Rep M L (.bool b) (.bool b)
  | int {L} (k n) : Rep M L (.int k n) (.int k n)
  | str {L} (s) : Rep M L (.str s) (.string s)
  | nilp {L} : Rep M L .nilp (.pointer none)
  | ptr {L} {id g off : Nat} {v : Value} {e : Ent} (he : L[id]? = some e) (hg : g ≤ e.g) (h1 : oneCell v) (hv : g = e.g → v = .pointer (some ⟨e.b, off, none⟩)) : Rep M L (.ptr id g off) v
  | fptr {L} {row : List AV} {off b o : Nat} (us : Nat → Value) (hm : ∀ i, i < row.length → M b (o + i) = some (us i))
      (hr : ∀ i (h : i < row.length), Rep M [] row[i] (us i)) : Rep M L (.fptr row off) (.pointer (some ⟨b, o + off, none⟩))
  | nils {L} : Rep M L .nils (.slice none 0 0)
  | es {L} (a) : Rep M L .es (.slice (some a) 0 0)
  | eu {L} (a cap) : Rep M L .eu (.slice (some a) 0 cap)
  | sl {L} {id g off len sz : Nat} {v : Value} {e : Ent} (he : L[id]? = some e) (hg : g ≤ e.g) (h1 : oneCell v)
      (hv : g = e.g → ∃ cap, v = .slice (some ⟨e.b, off, none⟩) len cap ∧ len ≤ cap ∧ off + len * sz ≤ e.used ∧ e.used ≤ off + cap * sz ∧ off + cap * sz ≤ e.cs) :
      Rep M L (.sl id g off len sz) v
  | fs {L} {row : List AV} {len b o cap : Nat} (hl : len ≤ cap) (us : Nat → Value) (hm : ∀ i, i < row.length → M b (o + i) = some (us i))
      (hr : ∀ i (h : i < row.length), Rep M [] row[i] (us i)) : Rep M L (.fs row len) (.slice (some ⟨b, o, none⟩) len cap)
  | nilm {L} : Rep M L .nilm (.map none)
  | mp {L} {id : Nat} {v : Value} {e : Ent} (he : L[id]? = some e) (h1 : oneCell v) (hv : e.g = 0 → v = .map (some e.b)) : Rep M L (.mp id) v
  | fn {L} {f : FuncId} {first cap : List AV} {vf vc : Array Value} (h1 : first.length = vf.size) (h2 : cap.length = vc.size)
      (r1 : ∀ i (h : i < first.length), Rep M L first[i] (vf[i]'(h1 ▸ h))) (r2 : ∀ i (h : i < cap.length), Rep M L cap[i] (vc[i]'(h2 ▸ h))) :
      Rep M L (.fn f first cap) (.func (.func f) vf vc)
  | yl {L} {id : Nat} {v : Value} {e : Ent} (he : L[id]? = some e) (h1 : oneCell v) (hv : e.g = 0 → v = .func (.yield e.b) #[] #[]) : Rep M L (.yl id) v
  | nilf {L} : Rep M L .nilf .nilFunc
  | ifc {L} {t : TypeId} {x : AV} {v : Value} (h : Rep M L x v) : Rep M L (.ifc t x) (.iface t v)
  | nili {L} : Rep M L .nili .nilIface
  | agg {L} {cs : List AV} {vs : Array Value} (h1 : cs.length = vs.size) (r : ∀ i (h : i < cs.length), Rep M L cs[i] (vs[i]'(h1 ▸ h))) : Rep M L (.agg cs) (.agg vs)
  | tup {L} {cs : List AV} {vs : Array Value} (h1 : cs.length = vs.size) (r : ∀ i (h : i < cs.length), Rep M L cs[i] (vs[i]'(h1 ▸ h))) : Rep M L (.tup cs) (.tuple vs)
  | any {L} (v) : Rep M L .any v

def Mem.le (M M' : Mem) : Prop := ∀ b o v, M b o = some v → M' b o = some v

theorem Mem.le_trans {a b c : Mem} (h : Mem.le a b) (h' : Mem.le b c) : Mem.le a c := fun x o v hv => h' _ _ _ (h _ _ _ hv)

/-- How live entries may change. -/
def Ents.le (L L' : List Ent) : Prop := ∀ (id : Nat) e, L[id]? = some e → ∃ e', L'[id]? = some e' ∧ e.g ≤ e'.g ∧ (e'.g = e.g → e' = e)

theorem Ents.le_refl (L : List Ent) : Ents.le L L := fun _ e h => ⟨e, h, Nat.le_refl _, fun _ => rfl⟩
theorem Ents.le_trans {L L' L'' : List Ent} (h : Ents.le L L') (h' : Ents.le L' L'') : Ents.le L L'' := fun id e he => by
  obtain ⟨e1, h1, g1, q1⟩ := h id e he
  obtain ⟨e2, h2, g2, q2⟩ := h' id e1 h1
  refine ⟨e2, h2, Nat.le_trans g1 g2, fun hg => ?_⟩
  have a : e1.g = e.g := by omega
  have b : e2.g = e1.g := by omega
  rw [q2 b, q1 a]
theorem Ents.le_append (L K : List Ent) : Ents.le L (L ++ K) := fun id e he => by
  refine ⟨e, ?_, Nat.le_refl _, fun _ => rfl⟩
  obtain ⟨hlt, _⟩ := List.getElem?_eq_some_iff.1 he
  rw [List.getElem?_append_left hlt]; exact he

theorem Rep.mono {M M' : Mem} (hM : Mem.le M M') {L : List Ent} {x : AV} {v : Value} (h : Rep M L x v) : ∀ {L' : List Ent}, Ents.le L L' → Rep M' L' x v := by
  induction h with
  | bool b => exact fun _ => .bool b
  | int k n => exact fun _ => .int k n
  | str s => exact fun _ => .str s
  | nilp => exact fun _ => .nilp
  | ptr he hg h1 hv =>
    intro L' hL
    obtain ⟨e', he', g', q'⟩ := hL _ _ he
    exact .ptr he' (Nat.le_trans hg g') h1 (fun h => by have := q' (by omega); subst this; exact hv h)
  | fptr us hm hr ih => exact fun _ => .fptr us (fun i h => hM _ _ _ (hm i h)) (fun i h => ih i h (Ents.le_refl _))
  | nils => exact fun _ => .nils
  | es a => exact fun _ => .es a
  | eu a n => exact fun _ => .eu a n
  | sl he hg h1 hv =>
    intro L' hL
    obtain ⟨e', he', g', q'⟩ := hL _ _ he
    exact .sl he' (Nat.le_trans hg g') h1 (fun h => by have := q' (by omega); subst this; exact hv h)
  | fs hl us hm hr ih => exact fun _ => .fs hl us (fun i h => hM _ _ _ (hm i h)) (fun i h => ih i h (Ents.le_refl _))
  | nilm => exact fun _ => .nilm
  | mp he h1 hv =>
    intro L' hL
    obtain ⟨e', he', g', q'⟩ := hL _ _ he
    exact .mp he' h1 (fun h => by have := q' (by omega); subst this; exact hv h)
  | fn h1 h2 r1 r2 ih1 ih2 => exact fun hL => .fn h1 h2 (fun i h => ih1 i h hL) (fun i h => ih2 i h hL)
  | yl he h1 hv =>
    intro L' hL
    obtain ⟨e', he', g', q'⟩ := hL _ _ he
    exact .yl he' h1 (fun h => by have := q' (by omega); subst this; exact hv h)
  | nilf => exact fun _ => .nilf
  | ifc h ih => exact fun hL => .ifc (ih hL)
  | nili => exact fun _ => .nili
  | agg h1 r ih => exact fun hL => .agg h1 (fun i h => ih i h hL)
  | tup h1 r ih => exact fun hL => .tup h1 (fun i h => ih i h hL)
  | any v => exact fun _ => .any v

/-- A configuration: what is protected, where the live blocks lie, the world. -/
structure Cfg where
  M : Mem
  L : List Ent
  w : World

abbrev Cfg.rep (c : Cfg) (x : AV) (v : Value) : Prop := Rep c.M c.L x v

/-- How a configuration may grow: what is protected stays; blocks that are not live's stay; new live blocks are new blocks. -/
structure Cfg.Le (c c' : Cfg) : Prop where
  mem : Mem.le c.M c'.M
  ents : Ents.le c.L c'.L
  size : c.w.heap.size ≤ c'.w.heap.size
  keep : ∀ b, b < c.w.heap.size → (∀ e ∈ c.L, e.b ≠ b) → c'.w.heap[b]? = c.w.heap[b]?
  fresh : ∀ e' ∈ c'.L, (∃ e ∈ c.L, e.b = e'.b) ∨ c.w.heap.size ≤ e'.b
  mfresh : ∀ b o, c'.M b o ≠ c.M b o → (∃ e ∈ c.L, e.b = b) ∨ c.w.heap.size ≤ b
  out : c'.w.output = c.w.output
  os : c'.w.os = c.w.os
  loops : ∀ (b : Nat) (r : Loop), c.w.heap[b]? = some (Obj.loop r) → ∃ r' : Loop, c'.w.heap[b]? = some (Obj.loop r') ∧ r'.defers = r.defers

theorem Cfg.Le.refl (c : Cfg) : c.Le c :=
  ⟨fun _ _ _ h => h, Ents.le_refl _, Nat.le_refl _, fun _ _ _ => rfl, fun e h => .inl ⟨e, h, rfl⟩, fun _ _ h => absurd rfl h, rfl, rfl, fun _ r h => ⟨r, h, rfl⟩⟩

theorem Cfg.Le.trans {a b c : Cfg} (h : a.Le b) (h' : b.Le c) : a.Le c where
  mem := fun x o v hv => h'.mem _ _ _ (h.mem _ _ _ hv)
  ents := Ents.le_trans h.ents h'.ents
  size := Nat.le_trans h.size h'.size
  keep := fun x hx hn => by
    rw [h'.keep x (Nat.lt_of_lt_of_le hx h.size) ?_, h.keep x hx hn]
    intro e he heq
    rcases h.fresh e he with ⟨e0, h0, h1⟩ | h0
    · exact hn e0 h0 (by rw [h1, heq])
    · omega
  fresh := fun e he => by
    rcases h'.fresh e he with ⟨e1, h1, q1⟩ | h1
    · rcases h.fresh e1 h1 with ⟨e0, h0, q0⟩ | h0
      · exact .inl ⟨e0, h0, by rw [q0, q1]⟩
      · exact .inr (by omega)
    · exact .inr (Nat.le_trans h.size h1)
  mfresh := fun x o hne => by
    by_cases hb : b.M x o = a.M x o
    · rw [← hb] at hne
      rcases h'.mfresh x o hne with ⟨e1, h1, q1⟩ | h1
      · rcases h.fresh e1 h1 with ⟨e0, h0, q0⟩ | h0
        · exact .inl ⟨e0, h0, by rw [q0, q1]⟩
        · exact .inr (by omega)
      · exact .inr (Nat.le_trans h.size h1)
    · exact h.mfresh x o hb
  out := by rw [h'.out, h.out]
  os := by rw [h'.os, h.os]
  loops := fun x r hr => by
    obtain ⟨r1, h1, q1⟩ := h.loops x r hr
    obtain ⟨r2, h2, q2⟩ := h'.loops x r1 h1
    exact ⟨r2, h2, by rw [q2, q1]⟩

theorem Cfg.Le.rep {c c' : Cfg} (h : c.Le c') {x : AV} {v : Value} (r : c.rep x v) : c'.rep x v := Rep.mono h.mem r h.ents

/-- Abstract blocks. -/
inductive ABlk where
  | dead
  | cells (row : List AV) (g : Nat)
  | loop (state : LoopState) (pending : Option Code) (env : List AV) (params : List Tmp) (assign body : Code)
  | map (es : List (AV × AV × Nat)) (clock : Nat)
  | strIter (s : ByteArray) (pos : Nat)
  | mapIter (map : Option Nat) (since : Nat) (seen : List Nat) (stepped : Nat)
  deriving Inhabited

abbrev Heap := List ABlk

def RepL (M : Mem) (L : List Ent) (xs : List AV) (vs : Array Value) : Prop :=
  xs.length = vs.size ∧ ∀ (i : Nat) (x : AV) (v : Value), xs[i]? = some x → vs[i]? = some v → Rep M L x v

/-- What an abstract block says of its block in memory. -/
def BOk (c : Cfg) (e : Ent) : ABlk → Prop
  | .dead => True
  | .cells row g => e.g = g ∧ e.used = row.length ∧ (∀ o, c.M e.b o = none) ∧ ∃ cs t, c.w.heap[e.b]? = some (.cells cs t (0, 0)) ∧ cs.size = e.cs ∧ row.length ≤ cs.size ∧
      ∀ (i : Nat) (x : AV), row[i]? = some x → ∃ u : Value, cs[i]? = some u ∧ c.rep x u ∧ oneCell u
  | .loop st pend env ps as body => e.g = 0 ∧ ∃ l : Loop, c.w.heap[e.b]? = some (.loop l) ∧ l.state = st ∧ l.pending = pend ∧ l.params = ps.toArray ∧ l.assign = as ∧ l.body = body ∧
      RepL c.M c.L env l.tmps
  | .map es clock => e.g = 0 ∧ ∃ es' : Array MapEntry, c.w.heap[e.b]? = some (.map es' clock) ∧ es.length = es'.size ∧
      ∀ (i : Nat) (x : AV × AV × Nat) (m : MapEntry), es[i]? = some x → es'[i]? = some m → c.rep x.1 m.key ∧ c.rep x.2.1 m.val ∧ x.2.2 = m.born
  | .strIter s pos => e.g = 0 ∧ c.w.heap[e.b]? = some (.stringIter s pos)
  | .mapIter m since seen stepped => e.g = 0 ∧ ∃ m', c.w.heap[e.b]? = some (.mapIter m' since seen.toArray stepped) ∧
      (match m with | none => m' = none | some id => ∃ e', c.L[id]? = some e' ∧ (e'.g = 0 → m' = some e'.b))

def ABlk.alive : ABlk → Bool
  | .dead => false
  | _ => true

theorem RepL.mono {c c' : Cfg} (h : c.Le c') {xs : List AV} {vs : Array Value} (r : RepL c.M c.L xs vs) : RepL c'.M c'.L xs vs :=
  ⟨r.1, fun i x v hx hv => h.rep (r.2 i x v hx hv)⟩

theorem BOk.mono {c c' : Cfg} {e : Ent} {k : ABlk} (h : c.Le c') (hh : c'.w.heap[e.b]? = c.w.heap[e.b]?) (hm : ∀ o, c'.M e.b o = c.M e.b o) (r : BOk c e k) : BOk c' e k := by
  cases k with
  | dead => trivial
  | cells row g =>
    obtain ⟨h1, h2, h3, cs, t, h4, h5, h6, h7⟩ := r
    refine ⟨h1, h2, fun o => by rw [hm, h3], cs, t, by rw [hh, h4], h5, h6, fun i x hx => ?_⟩
    obtain ⟨u, hu, hr, h1⟩ := h7 i x hx
    exact ⟨u, hu, h.rep hr, h1⟩
  | loop st pend env ps as body =>
    obtain ⟨h1, l, h2, h3, h4, h5, h6, h7, h9⟩ := r
    exact ⟨h1, l, by rw [hh, h2], h3, h4, h5, h6, h7, h9.mono h⟩
  | map es clock =>
    obtain ⟨h1, es', h2, h3, h4⟩ := r
    exact ⟨h1, es', by rw [hh, h2], h3, fun i x m hx hm' => by obtain ⟨a, b, d⟩ := h4 i x m hx hm'; exact ⟨h.rep a, h.rep b, d⟩⟩
  | strIter s pos => exact ⟨r.1, by rw [hh, r.2]⟩
  | mapIter m since seen stepped =>
    obtain ⟨h1, m', h2, h3⟩ := r
    refine ⟨h1, m', by rw [hh, h2], ?_⟩
    cases m with
    | none => exact h3
    | some id =>
      obtain ⟨e', he', hb⟩ := h3
      obtain ⟨e2, h2', g2, q2⟩ := h.ents _ _ he'
      exact ⟨e2, h2', fun h0 => by have := q2 (by omega); subst this; exact hb h0⟩

structure Sim (c : Cfg) (σ : Heap) : Prop where
  len : c.L.length = σ.length
  prot : ∀ b o v, c.M b o = some v → c.w.cell? ⟨b, o, none⟩ = some v
  lt : ∀ e ∈ c.L, e.b < c.w.heap.size
  blk : ∀ (id : Nat) e k, c.L[id]? = some e → σ[id]? = some k → BOk c e k
  inj : ∀ (i j : Nat) e e' k, c.L[i]? = some e → c.L[j]? = some e' → σ[i]? = some k → k.alive = true → e.b = e'.b → i = j

theorem cell?_of_heap {w w' : World} {b o : Nat} (h : w'.heap[b]? = w.heap[b]?) : w'.cell? ⟨b, o, none⟩ = w.cell? ⟨b, o, none⟩ := by
  simp only [World.cell?, h]

theorem Sim.noprot {c : Cfg} {σ : Heap} (hs : Sim c σ) {id : Nat} {e : Ent} {k : ABlk} (he : c.L[id]? = some e) (hk : σ[id]? = some k) (ha : k.alive = true) : ∀ o, c.M e.b o = none := by
  intro o
  have hb := hs.blk id e k he hk
  cases hM : c.M e.b o with
  | none => rfl
  | some v =>
    have hc := hs.prot _ _ _ hM
    cases k with
    | dead => simp [ABlk.alive] at ha
    | cells row g => obtain ⟨_, _, h3, _⟩ := hb; rw [h3] at hM; cases hM
    | loop st pend env ps as body => obtain ⟨_, l, h2, _⟩ := hb; simp [World.cell?, h2] at hc
    | map es clock => obtain ⟨_, es', h2, _⟩ := hb; simp [World.cell?, h2] at hc
    | strIter s pos => obtain ⟨_, h2⟩ := hb; simp [World.cell?, h2] at hc
    | mapIter m since seen stepped => obtain ⟨_, m', h2, _⟩ := hb; simp [World.cell?, h2] at hc

/-- One live block turns, in place or in a new block. -/
theorem Sim.put {c : Cfg} {σ : Heap} {id : Nat} {e e' : Ent} {k k' : ABlk} {w' : World} (hs : Sim c σ) (he : c.L[id]? = some e) (hk : σ[id]? = some k) (ha : k.alive = true)
    (hg : e.g ≤ e'.g) (hge : e'.g = e.g → e' = e) (hb : e'.b = e.b ∨ c.w.heap.size ≤ e'.b) (hlt : e'.b < w'.heap.size) (hsz : c.w.heap.size ≤ w'.heap.size)
    (hkeep : ∀ b, b < c.w.heap.size → b ≠ e.b → w'.heap[b]? = c.w.heap[b]?) (ho : w'.output = c.w.output) (hos : w'.os = c.w.os)
    (hlp : ∀ r : Loop, c.w.heap[e.b]? = some (Obj.loop r) → ∃ r' : Loop, w'.heap[e.b]? = some (Obj.loop r') ∧ r'.defers = r.defers)
    (hok : c.Le ⟨c.M, c.L.set id e', w'⟩ → BOk ⟨c.M, c.L.set id e', w'⟩ e' k') : c.Le ⟨c.M, c.L.set id e', w'⟩ ∧ Sim ⟨c.M, c.L.set id e', w'⟩ (σ.set id k') := by
  obtain ⟨hidlt, hide⟩ := List.getElem?_eq_some_iff.1 he
  have hnp := hs.noprot he hk ha
  have hmem : ∀ x ∈ c.L.set id e', x = e' ∨ x ∈ c.L := fun x hx => (List.mem_or_eq_of_mem_set hx).symm
  have hle : c.Le ⟨c.M, c.L.set id e', w'⟩ := by
    refine ⟨fun _ _ _ h => h, fun j x hx => ?_, hsz, fun b hb' hn => hkeep b hb' (fun h => hn e (List.mem_of_getElem? he) h.symm), fun x hx => ?_, fun _ _ h => absurd rfl h, ho, hos, fun b r hr => ?_⟩
    · by_cases hj : id = j
      · subst hj
        rw [he] at hx; cases hx
        exact ⟨e', by rw [List.getElem?_set_self hidlt], hg, hge⟩
      · exact ⟨x, by rw [List.getElem?_set_ne hj]; exact hx, Nat.le_refl _, fun _ => rfl⟩
    · rcases hmem x hx with rfl | hx
      · rcases hb with hb | hb
        · exact .inl ⟨e, List.mem_of_getElem? he, hb.symm⟩
        · exact .inr hb
      · exact .inl ⟨x, hx, rfl⟩
    · by_cases hbe : b = e.b
      · subst hbe; exact hlp r hr
      · exact ⟨r, by rw [hkeep b (Array.getElem?_eq_some_iff.1 hr).1 hbe]; exact hr, rfl⟩
  refine ⟨hle, ?_⟩
  have hok := hok hle
  refine ⟨by simp [hs.len], fun b o v hM => ?_, fun x hx => ?_, fun j x y hx hy => ?_, fun i j x x' y hx hx' hy hal heq => ?_⟩
  · have hne : b ≠ e.b := fun h => by subst h; rw [hnp] at hM; cases hM
    have hc := hs.prot _ _ _ hM
    rw [← hc]
    exact cell?_of_heap (hkeep b (World.block_lt_of_cell? _ _ hc) hne)
  · rcases hmem x hx with rfl | hx
    · exact hlt
    · exact Nat.lt_of_lt_of_le (hs.lt x hx) hsz
  · by_cases hj : id = j
    · subst hj
      have hlt2 : id < σ.length := by rw [← hs.len]; exact hidlt
      rw [List.getElem?_set_self hidlt] at hx; rw [List.getElem?_set_self hlt2] at hy
      cases hx; cases hy; exact hok
    · rw [List.getElem?_set_ne hj] at hx; rw [List.getElem?_set_ne hj] at hy
      cases hya : y.alive with
      | false => cases y <;> first | trivial | simp [ABlk.alive] at hya
      | true =>
        refine BOk.mono hle (hkeep _ (hs.lt _ (List.mem_of_getElem? hx)) (fun h => hj ?_)) (fun _ => rfl) (hs.blk _ _ _ hx hy)
        exact (hs.inj j id x e y hx he hy hya h).symm
  · by_cases hi : id = i
    · subst hi
      rw [List.getElem?_set_self hidlt] at hx; cases hx
      by_cases hj : id = j
      · exact hj
      · rw [List.getElem?_set_ne hj] at hx'
        rcases hb with hb | hb
        · exact hs.inj id j e x' k he hx' hk ha (by rw [← hb, heq])
        · have := hs.lt _ (List.mem_of_getElem? hx'); omega
    · rw [List.getElem?_set_ne hi] at hx; rw [List.getElem?_set_ne hi] at hy
      by_cases hj : id = j
      · subst hj
        rw [List.getElem?_set_self hidlt] at hx'; cases hx'
        rcases hb with hb | hb
        · exact hs.inj i id x e y hx he hy hal (by rw [heq, hb])
        · have := hs.lt _ (List.mem_of_getElem? hx); omega
      · rw [List.getElem?_set_ne hj] at hx'
        exact hs.inj i j x x' y hx hx' hy hal heq

/-- A new live block. -/
theorem Sim.new {c : Cfg} {σ : Heap} {e' : Ent} {k' : ABlk} {o : Obj} (hs : Sim c σ) (hb : e'.b = c.w.heap.size)
    (hok : c.Le ⟨c.M, c.L ++ [e'], c.w.alloc o⟩ → BOk ⟨c.M, c.L ++ [e'], c.w.alloc o⟩ e' k') : c.Le ⟨c.M, c.L ++ [e'], c.w.alloc o⟩ ∧ Sim ⟨c.M, c.L ++ [e'], c.w.alloc o⟩ (σ ++ [k']) := by
  have hkeep : ∀ b, b < c.w.heap.size → (c.w.alloc o).heap[b]? = c.w.heap[b]? := fun b h => by
    simp only [World.alloc, Array.getElem?_push]; rw [if_neg (by omega)]
  have hle : c.Le ⟨c.M, c.L ++ [e'], c.w.alloc o⟩ := by
    refine ⟨fun _ _ _ h => h, Ents.le_append _ _, by simp, fun b h _ => hkeep b h, fun x hx => ?_, fun _ _ h => absurd rfl h, rfl, rfl, fun b r hr => ⟨r, by rw [hkeep b (Array.getElem?_eq_some_iff.1 hr).1]; exact hr, rfl⟩⟩
    rcases List.mem_append.1 hx with hx | hx
    · exact .inl ⟨x, hx, rfl⟩
    · simp at hx; subst hx; exact .inr (by omega)
  refine ⟨hle, ?_⟩
  have hok := hok hle
  refine ⟨by simp [hs.len], fun b o' v hM => ?_, fun x hx => ?_, fun j x y hx hy => ?_, fun i j x x' y hx hx' hy hal heq => ?_⟩
  · have hc := hs.prot _ _ _ hM
    rw [← hc]
    exact cell?_of_heap (hkeep b (World.block_lt_of_cell? _ _ hc))
  · rcases List.mem_append.1 hx with hx | hx
    · have := hs.lt x hx; simp; omega
    · simp at hx; subst hx; simp [hb]
  · by_cases hj : j < c.L.length
    · rw [List.getElem?_append_left hj] at hx
      rw [List.getElem?_append_left (by rw [← hs.len]; exact hj)] at hy
      exact BOk.mono hle (hkeep _ (hs.lt _ (List.mem_of_getElem? hx))) (fun _ => rfl) (hs.blk _ _ _ hx hy)
    · rw [List.getElem?_append_right (by omega)] at hx
      rw [List.getElem?_append_right (by rw [← hs.len]; omega)] at hy
      rw [← hs.len] at hy
      generalize j - c.L.length = m at hx hy
      cases m with
      | zero => simp at hx hy; subst hx; subst hy; exact hok
      | succ m => simp at hx
  · have hcase : ∀ (i : Nat) (x : Ent), (c.L ++ [e'])[i]? = some x → (c.L[i]? = some x) ∨ (i = c.L.length ∧ x = e') := fun i x hx => by
      by_cases hi : i < c.L.length
      · rw [List.getElem?_append_left hi] at hx; exact .inl hx
      · rw [List.getElem?_append_right (by omega)] at hx
        have : i - c.L.length = 0 := by
          rcases Nat.eq_zero_or_pos (i - c.L.length) with h | h
          · exact h
          · rw [List.getElem?_eq_none (by simp; omega)] at hx; cases hx
        rw [this] at hx; simp at hx
        exact .inr ⟨by omega, hx.symm⟩
    rcases hcase i x hx with h1 | ⟨h1, h2⟩ <;> rcases hcase j x' hx' with h3 | ⟨h3, h4⟩
    · have hi : i < σ.length := by rw [← hs.len]; exact (List.getElem?_eq_some_iff.1 h1).1
      rw [List.getElem?_append_left hi] at hy
      exact hs.inj i j x x' y h1 h3 hy hal heq
    · have := hs.lt _ (List.mem_of_getElem? h1); subst h4; omega
    · have := hs.lt _ (List.mem_of_getElem? h3); subst h2; omega
    · rw [h1, h3]

/-- What is not the heap, the output or the outside may turn. -/
theorem Sim.same {c : Cfg} {σ : Heap} {w' : World} (hs : Sim c σ) (hh : w'.heap = c.w.heap) (ho : w'.output = c.w.output) (hos : w'.os = c.w.os) :
    c.Le ⟨c.M, c.L, w'⟩ ∧ Sim ⟨c.M, c.L, w'⟩ σ := by
  have hle : c.Le ⟨c.M, c.L, w'⟩ := ⟨fun _ _ _ h => h, Ents.le_refl _, by simp [hh], fun _ _ _ => by simp [hh], fun e h => .inl ⟨e, h, rfl⟩, fun _ _ h => absurd rfl h, ho, hos, fun b r hr => ⟨r, by simpa [hh] using hr, rfl⟩⟩
  refine ⟨hle, hs.len, fun b o v hM => ?_, fun e he => by simp [hh]; exact hs.lt e he, fun id e k he hk => BOk.mono hle (by simp [hh]) (fun _ => rfl) (hs.blk id e k he hk), hs.inj⟩
  rw [← hs.prot _ _ _ hM]; exact cell?_of_heap (by simp [hh])

/-- What lies beyond the live blocks may grow: a block that is none of theirs is laid. -/
theorem Sim.other {c : Cfg} {σ : Heap} {o : Obj} (hs : Sim c σ) : c.Le ⟨c.M, c.L, c.w.alloc o⟩ ∧ Sim ⟨c.M, c.L, c.w.alloc o⟩ σ := by
  have hkeep : ∀ b, b < c.w.heap.size → (c.w.alloc o).heap[b]? = c.w.heap[b]? := fun b h => by
    simp only [World.alloc, Array.getElem?_push]; rw [if_neg (by omega)]
  have hle : c.Le ⟨c.M, c.L, c.w.alloc o⟩ := ⟨fun _ _ _ h => h, Ents.le_refl _, by simp, fun b h _ => hkeep b h, fun e h => .inl ⟨e, h, rfl⟩, fun _ _ h => absurd rfl h, rfl, rfl, fun b r hr => ⟨r, by rw [hkeep b (Array.getElem?_eq_some_iff.1 hr).1]; exact hr, rfl⟩⟩
  refine ⟨hle, hs.len, fun b o' v hM => ?_, fun e he => by have := hs.lt e he; simp; omega, fun id e k he hk => BOk.mono hle (hkeep _ (hs.lt _ (List.mem_of_getElem? he))) (fun _ => rfl) (hs.blk id e k he hk), hs.inj⟩
  have hc := hs.prot _ _ _ hM
  rw [← hc]; exact cell?_of_heap (hkeep b (World.block_lt_of_cell? _ _ hc))

end Go.Tl
