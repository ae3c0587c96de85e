/- What each operation that calls nothing does: the abstract function 'ex', and that the model does the same. -/
import Derived.Test.YtjcenhgfonhidaaTlB
import Derived.Laws.Cells
import Derived.Laws.CopyRow
import Derived.Laws.StructEq
namespace Go.Tl
open Go.RowKit

theorem add_none (b o i : Nat) : (⟨b, o, none⟩ : Addr).add i = ⟨b, o + i, none⟩ := by
  unfold Addr.add; split <;> simp_all

section runs
variable {G : Prg} {t : TypeId} {r : TyRow} (w : World)

theorem run_isAggA (h : G.row t = some r) : (isAgg t).run G.P w = .ok r.agg w := by
  obtain ⟨i, d, hi, hd, _, _, _, _, hk⟩ := row_info h
  simp only [isAgg, Sem.run_bind, run_underlying hd, Result.andThen_ok]
  unfold TyRow.agg
  cases d <;> cases hr : r.knd <;> simp_all [kndB]

theorem run_sizeOfA (h : G.row t = some r) : (sizeOf t).run G.P w = .ok r.size w := by
  obtain ⟨i, d, hi, hd, hs, _⟩ := row_info h
  simp [sizeOf, typeInfo, Sem.run_bind, run_program, hi, Result.andThen, hs]

theorem run_zeroA (h : G.row t = some r) : ∃ z, (zeroValue t).run G.P w = .ok z w ∧ z.cells.size = r.zero.length ∧ (∀ (M : Mem) (L : List Ent), RepL M L r.zero z.cells) ∧ (∀ v ∈ z.cells, oneCell v) ∧ (r.agg = true ↔ ∃ cs, z = .agg cs) := by
  obtain ⟨i, d, hi, hd, hs, _, _, ⟨z, hz, h1, h2, h3, h4⟩, _⟩ := row_info h
  exact ⟨z, by simp [zeroValue, typeInfo, Sem.run_bind, run_program, hi, Result.andThen, hz], h1, h2, h3, h4⟩
end runs

/-! ### Memory -/
def rdRow (σ : Heap) : AV → Option (List AV × Nat)
  | .ptr id g off => match σ[id]? with
    | some (.cells row g') => if g = g' then some (row, off) else none
    | _ => none
  | .fptr row off => some (row, off)
  | _ => none

theorem Ents.nil_le (L : List Ent) : Ents.le [] L := fun id e h => by simp at h

theorem rd_rep {c : Cfg} {σ : Heap} (hs : Sim c σ) {p : AV} {v : Value} (hp : c.rep p v) {row : List AV} {off : Nat} (h : rdRow σ p = some (row, off)) :
    ∃ b o, v = .pointer (some ⟨b, o, none⟩) ∧ ∀ i x, row[off + i]? = some x → ∃ u, c.w.cell? ⟨b, o + i, none⟩ = some u ∧ c.rep x u := by
  unfold rdRow at h
  split at h
  case h_1 id g off' =>
    obtain ⟨e, he, hg, h1, hv⟩ := rep_ptr_inv hp
    split at h
    case h_2 => cases h
    case h_1 row' g' hσ =>
      split at h
      case isFalse => cases h
      case isTrue hgg =>
        cases h
        obtain ⟨k1, k2, k3, cs, ty, k4, k5, k6, k7⟩ := hs.blk _ _ _ he hσ
        refine ⟨e.b, off, hv (by omega), fun i x hx => ?_⟩
        obtain ⟨u, hu, hr, _⟩ := k7 _ _ hx
        exact ⟨u, by simp [World.cell?, k4, hu], hr⟩
  case h_2 row' off' =>
    obtain ⟨b, o, us, rfl, hm, hr⟩ := rep_fptr_inv hp
    cases h
    refine ⟨b, o + off, rfl, fun i x hx => ?_⟩
    obtain ⟨hlt, rfl⟩ := List.getElem?_eq_some_iff.1 hx
    exact ⟨us (off + i), by rw [Nat.add_assoc]; exact hs.prot _ _ _ (hm _ hlt), Rep.mono (fun _ _ _ h => h) (hr _ hlt) (Ents.nil_le _)⟩
  case h_3 => cases h

def loadA (r : TyRow) (σ : Heap) (p : AV) : Option AV :=
  match rdRow σ p with
  | some (row, off) => if r.agg then (if off + r.size ≤ row.length then some (.agg ((row.drop off).take r.size)) else none) else row[off]?
  | none => none

theorem load_ok {G : Prg} {c : Cfg} {σ : Heap} (hs : Sim c σ) {t : TypeId} {r : TyRow} (ht : G.row t = some r) {p : AV} {v : Value} (hp : c.rep p v) {x : AV} (h : loadA r σ p = some x) :
    ∃ u, (Instr.loadAt t v).run G.P c.w = .ok u c.w ∧ c.rep x u := by
  unfold loadA at h
  split at h
  case h_2 => cases h
  case h_1 row off hrd =>
    obtain ⟨b, o, rfl, hc⟩ := rd_rep hs hp hrd
    simp only [Instr.loadAt, Instr.sureAddr, Sem.run_bind, Sem.run_pure, Result.andThen_ok, loadVar, run_isAggA c.w ht, Sem.run_ite]
    split at h
    case isTrue hagg =>
      split at h
      case isFalse => cases h
      case isTrue hle =>
        cases h
        have hget : ∀ i, i < r.size → ∃ u, c.w.cell? ⟨b, o + i, none⟩ = some u ∧ ∃ x, row[off + i]? = some x ∧ c.rep x u := fun i hi => by
          have hlt : off + i < row.length := by omega
          obtain ⟨u, hu, hr⟩ := hc i _ (List.getElem?_eq_getElem hlt)
          exact ⟨u, hu, _, List.getElem?_eq_getElem hlt, hr⟩
        let f : Nat → Value := fun i => (c.w.cell? ⟨b, o + i, none⟩).getD undef
        have hl := run_loadCells (P := G.P) c.w ⟨b, o, none⟩ r.size f (fun j hj => by
          rw [add_none]; obtain ⟨u, hu, _⟩ := hget j hj; simp [f, hu])
        refine ⟨.agg ((List.range r.size).map f).toArray, by simp [hagg, run_sizeOfA c.w ht, hl, Result.andThen], repL_agg.2 ⟨by simp; omega, fun i x u hx hu => ?_⟩⟩
        have hi : i < r.size := by
          have := (List.getElem?_eq_some_iff.1 hx).1
          simp at this; omega
        obtain ⟨u', hu', x', hx', hr⟩ := hget i hi
        simp [hi] at hu hx
        rw [hx'] at hx; cases hx
        subst hu
        simpa [f, hu'] using hr
    case isFalse hagg =>
      obtain ⟨u, hu, hr⟩ := hc 0 x h
      rw [Nat.add_zero] at hu
      exact ⟨u, by simp [hagg, hu], hr⟩

def splice (row : List AV) (off : Nat) (cs : List AV) : List AV := row.take off ++ cs ++ row.drop (off + cs.length)

def storeA (r : TyRow) (σ : Heap) (p x : AV) : Option Heap :=
  match p with
  | .ptr id g off => match σ[id]? with
    | some (.cells row g') => if g = g' ∧ x.cells.length = r.size ∧ off + r.size ≤ row.length ∧ x.cells.all AV.one = true then some (σ.set id (.cells (splice row off x.cells) g)) else none
    | _ => none
  | _ => none

theorem all_one {M : Mem} {L : List Ent} {xs : List AV} {vs : Array Value} (h : RepL M L xs vs) (h1 : xs.all AV.one = true) : ∀ v ∈ vs, oneCell v := fun v hv => by
  obtain ⟨i, hi, rfl⟩ := Array.mem_iff_getElem.1 hv
  have hlt : i < xs.length := by rw [h.1]; exact hi
  exact (h.2 i _ _ (List.getElem?_eq_getElem hlt) (Array.getElem?_eq_getElem hi)).one (List.all_eq_true.1 h1 _ (List.getElem_mem hlt))

theorem oneCell' {v : Value} (h : oneCell v) : v.oneCell' = true := by cases v <;> first | rfl | exact h.elim

/-- A live block of cells is written, or said to have more cells in use. -/
theorem Sim.setRow {c : Cfg} {σ : Heap} {id : Nat} {e : Ent} {row row' : List AV} {g g' : Nat} {cs cs' : Array Value} {ty : TypeId} (hs : Sim c σ) (he : c.L[id]? = some e) (hσ : σ[id]? = some (.cells row g))
    (h4 : c.w.heap[e.b]? = some (.cells cs ty (0, 0))) (hsz : cs'.size = cs.size) (hg : g ≤ g') (hgl : g' = g → row'.length = row.length) (hle : row'.length ≤ cs'.size)
    (hrep : ∀ (i : Nat) (x : AV), row'[i]? = some x → ∃ u : Value, cs'[i]? = some u ∧ c.rep x u ∧ oneCell u) :
    c.Le ⟨c.M, c.L.set id ⟨e.b, g', row'.length, e.cs⟩, c.w.setRow e.b cs'⟩ ∧ Sim ⟨c.M, c.L.set id ⟨e.b, g', row'.length, e.cs⟩, c.w.setRow e.b cs'⟩ (σ.set id (.cells row' g')) := by
  obtain ⟨k1, k2, k3, cs0, ty0, k4, k5, k6, k7⟩ := hs.blk _ _ _ he hσ
  rw [h4] at k4; cases k4
  refine Sim.put (e' := ⟨e.b, g', row'.length, e.cs⟩) (w' := c.w.setRow e.b cs') hs he hσ rfl (by rw [k1]; exact hg) (fun h => ?_) (.inl rfl) (by simp; exact hs.lt e (List.mem_of_getElem? he)) (by simp)
    (fun b hb hne => setRow_other _ _ _ _ hne) rfl rfl (fun r hr => by rw [h4] at hr; cases hr) (fun hle' => ⟨rfl, rfl, k3, cs', ty, setRow_heap _ _ _ _ _ _ h4, by rw [hsz, k5], hle, fun i x hx => ?_⟩)
  · simp at h
    have := hgl (by omega)
    cases e; simp_all
  · obtain ⟨u, hu, hr, h1⟩ := hrep i x hx
    exact ⟨u, hu, hle'.rep hr, h1⟩

theorem splice_length (row : List AV) (off : Nat) (cs : List AV) (h : off + cs.length ≤ row.length) : (splice row off cs).length = row.length := by
  simp [splice]; omega

/-- A splice on both sides. -/
theorem splice_rep {c : Cfg} {row cs : List AV} {vs us : Array Value} {off : Nat} (h : off + cs.length ≤ row.length) (hl : row.length ≤ vs.size)
    (hr : ∀ (i : Nat) (x : AV), row[i]? = some x → ∃ u : Value, vs[i]? = some u ∧ c.rep x u ∧ oneCell u) (hc : RepL c.M c.L cs us) (h1 : ∀ v ∈ us, oneCell v) :
    ∀ (i : Nat) (x : AV), (splice row off cs)[i]? = some x → ∃ u : Value, (vs.toList.take off ++ us.toList ++ vs.toList.drop (off + us.toList.length)).toArray[i]? = some u ∧ c.rep x u ∧ oneCell u := by
  intro i x hx
  have hus : us.toList.length = cs.length := by simp [hc.1]
  simp only [List.getElem?_toArray]
  unfold splice at hx
  rw [List.append_assoc] at hx ⊢
  by_cases h2 : i < off
  · rw [List.getElem?_append_left (by simp; omega)] at hx ⊢
    rw [List.getElem?_take_of_lt h2] at hx ⊢
    obtain ⟨u, hu, r1, r2⟩ := hr i x hx
    exact ⟨u, by simpa using hu, r1, r2⟩
  · rw [List.getElem?_append_right (by simp; omega)] at hx ⊢
    have e1 : (row.take off).length = off := by simp; omega
    have e2 : (vs.toList.take off).length = off := by simp; omega
    rw [e1] at hx; rw [e2]
    by_cases h3 : i - off < cs.length
    · rw [List.getElem?_append_left h3] at hx
      rw [List.getElem?_append_left (by omega)]
      obtain ⟨u, hu, r1⟩ := hc.get hx
      exact ⟨u, by simpa using hu, r1, h1 u (Array.mem_of_getElem? hu)⟩
    · rw [List.getElem?_append_right (by omega)] at hx ⊢
      rw [List.getElem?_drop] at hx ⊢
      obtain ⟨u, hu, r1, r2⟩ := hr _ x hx
      refine ⟨u, ?_, r1, r2⟩
      rw [hus]; simpa using hu

theorem store_ok {G : Prg} {c : Cfg} {σ σ' : Heap} (hs : Sim c σ) {t : TypeId} {r : TyRow} (ht : G.row t = some r) {p x : AV} {v u : Value} (hp : c.rep p v) (hx : c.rep x u) (h : storeA r σ p x = some σ') :
    ∃ c', (Instr.storeAt t v u).run G.P c.w = .ok () c'.w ∧ c.Le c' ∧ Sim c' σ' := by
  unfold storeA at h
  split at h
  case h_2 => cases h
  case h_1 id g off =>
    split at h
    case h_2 => cases h
    case h_1 row g' hσ =>
      split at h
      case isFalse => cases h
      case isTrue hcond =>
        obtain ⟨rfl, hlen, hle, hall⟩ := hcond
        cases h
        obtain ⟨e, he, hg, h1, hv⟩ := rep_ptr_inv hp
        obtain ⟨k1, k2, k3, cs, ty, k4, k5, k6, k7⟩ := hs.blk _ _ _ he hσ
        have hv := hv k1.symm
        subst hv
        have hxa : x ≠ .any := fun h => by subst h; simp [AV.cells, AV.one] at hall
        have hc := hx.cells hxa
        have hone := all_one hc hall
        have hst := run_storeCells_at G.P e.b off ty u.cells.toList 0 cs c.w k4 (by simp [← hc.1, hlen]; omega) (fun y hy => oneCell' (hone y (by simpa using hy)))
        obtain ⟨hle', hsim⟩ := Sim.setRow (row' := splice row off x.cells) (cs' := (cs.toList.take off ++ u.cells.toList ++ cs.toList.drop (off + u.cells.toList.length)).toArray) (g' := g) hs he hσ k4
          (by simp [← hc.1]; omega) (Nat.le_refl _) (fun _ => splice_length _ _ _ (by omega)) (by rw [splice_length _ _ _ (by omega)]; simp [← hc.1]; omega) (splice_rep (by omega) k6 k7 hc hone)
        refine ⟨_, ?_, hle', hsim⟩
        simp only [Instr.storeAt, Instr.sureAddr, Sem.run_bind, Sem.run_pure, Result.andThen_ok, storeVar, run_sizeOfA c.w ht]
        rw [if_neg (by rw [← hc.1, hlen]; simp)]
        simpa using hst

/-! ### New memory -/
theorem alloc_get (w : World) (o : Obj) : (w.alloc o).heap[w.heap.size]? = some o := by
  show (w.heap.push o)[w.heap.size]? = _
  simp

/-- A row of one-cell values is laid in a new block. -/
theorem newRow_ok1 {P : Program} {c : Cfg} {σ : Heap} (hs : Sim c σ) (ty : TypeId) {row : List AV} {vs : Array Value} (hl : row.length ≤ vs.size)
    (hr : ∀ (i : Nat) (x : AV), row[i]? = some x → ∃ u : Value, vs[i]? = some u ∧ c.rep x u ∧ oneCell u) :
    (newRow ty vs).run P c.w = .ok ⟨c.w.heap.size, 0, none⟩ (c.w.alloc (.cells vs ty)) ∧ c.Le ⟨c.M, c.L ++ [⟨c.w.heap.size, 0, row.length, vs.size⟩], c.w.alloc (.cells vs ty)⟩ ∧ Sim ⟨c.M, c.L ++ [⟨c.w.heap.size, 0, row.length, vs.size⟩], c.w.alloc (.cells vs ty)⟩ (σ ++ [.cells row 0]) ∧ (c.L ++ [⟨c.w.heap.size, 0, row.length, vs.size⟩])[σ.length]? = some ⟨c.w.heap.size, 0, row.length, vs.size⟩ := by
  obtain ⟨hle, hsim⟩ := Sim.new (e' := ⟨c.w.heap.size, 0, row.length, vs.size⟩) (k' := .cells row 0) (o := .cells vs ty) hs rfl (fun hle => by
    refine ⟨rfl, rfl, fun o => ?_, vs, ty, alloc_get _ _, rfl, hl, fun i x hx => ?_⟩
    · cases hM : c.M c.w.heap.size o with
      | none => rfl
      | some v => have := World.block_lt_of_cell? _ _ (hs.prot _ _ _ hM); simp at this
    · obtain ⟨u, hu, h1, h2⟩ := hr i x hx
      exact ⟨u, hu, hle.rep h1, h2⟩)
  exact ⟨by simp [newRow], hle, hsim, by simp [← hs.len]⟩

theorem newRow_ok {P : Program} {c : Cfg} {σ : Heap} (hs : Sim c σ) (ty : TypeId) {row : List AV} {vs : Array Value} (hl : row.length ≤ vs.size)
    (hr : ∀ (i : Nat) (x : AV), row[i]? = some x → ∃ u : Value, vs[i]? = some u ∧ c.rep x u ∧ oneCell u) :
    ∃ c', (newRow ty vs).run P c.w = .ok ⟨c.w.heap.size, 0, none⟩ c'.w ∧ c.Le c' ∧ Sim c' (σ ++ [.cells row 0]) ∧ c'.L[σ.length]? = some ⟨c.w.heap.size, 0, row.length, vs.size⟩ := by
  obtain ⟨h1, h2, h3, h4⟩ := newRow_ok1 (P := P) hs ty hl hr
  exact ⟨_, h1, h2, h3, h4⟩

/-- How one comes to a block that was just laid. -/
inductive Fk where
  | ptr
  | sl (len sz : Nat)

def Fk.ref : Fk → Nat → AV
  | .ptr, id => .ptr id 0 0
  | .sl len sz, id => .sl id 0 0 len sz

/-- A block was laid, and nothing else was done. -/
def Fresh1 (c c' : Cfg) (row : List AV) (k : Fk) (v : Value) : Prop := ∃ (vs : Array Value) (ty : TypeId), c' = ⟨c.M, c.L ++ [⟨c.w.heap.size, 0, row.length, vs.size⟩], c.w.alloc (.cells vs ty)⟩ ∧ row.length ≤ vs.size ∧
  (∀ (i : Nat) (x : AV), row[i]? = some x → ∃ u : Value, vs[i]? = some u ∧ c.rep x u ∧ oneCell u) ∧ ∀ (M : Mem) (L : List Ent) (id : Nat), L[id]? = some ⟨c.w.heap.size, 0, row.length, vs.size⟩ → Rep M L (k.ref id) v

theorem repl_get {c : Cfg} {row : List AV} {vs : Array Value} (h : RepL c.M c.L row vs) (h1 : ∀ v ∈ vs, oneCell v) (i : Nat) (x : AV) (hx : row[i]? = some x) : ∃ u : Value, vs[i]? = some u ∧ c.rep x u ∧ oneCell u := by
  obtain ⟨u, hu, hr⟩ := h.get hx
  exact ⟨u, hu, hr, h1 u (Array.mem_of_getElem? hu)⟩

theorem alloc_ok1 {G : Prg} {c : Cfg} {σ : Heap} (hs : Sim c σ) {t : TypeId} {r : TyRow} (ht : G.row t = some r) :
    ∃ c' v, (Instr.alloc t true (.tuple #[])).run G.P c.w = .ok v c'.w ∧ c.Le c' ∧ Sim c' (σ ++ [.cells r.zero 0]) ∧ c'.rep (.ptr σ.length 0 0) v ∧ Fresh1 c c' r.zero .ptr v := by
  obtain ⟨z, hz, h1, h2, h3, _⟩ := run_zeroA (G := G) c.w ht
  obtain ⟨hn, hle, hsim, hL⟩ := newRow_ok1 (P := G.P) hs t (row := r.zero) (vs := z.cells) (by omega) (repl_get (h2 _ _) h3)
  exact ⟨_, .pointer (some ⟨c.w.heap.size, 0, none⟩), by simp [Instr.alloc, Sem.run_bind, hz, newVar, hn, Result.andThen], hle, hsim, .ptr hL (Nat.le_refl _) trivial (fun _ => rfl),
    z.cells, t, rfl, by omega, repl_get (h2 _ _) h3, fun M L id hid => .ptr hid (Nat.le_refl _) trivial (fun _ => rfl)⟩

theorem alloc_ok {G : Prg} {c : Cfg} {σ : Heap} (hs : Sim c σ) {t : TypeId} {r : TyRow} (ht : G.row t = some r) :
    ∃ c' v, (Instr.alloc t true (.tuple #[])).run G.P c.w = .ok v c'.w ∧ c.Le c' ∧ Sim c' (σ ++ [.cells r.zero 0]) ∧ c'.rep (.ptr σ.length 0 0) v := by
  obtain ⟨c', v, h1, h2, h3, h4, _⟩ := alloc_ok1 hs ht
  exact ⟨c', v, h1, h2, h3, h4⟩

theorem box_ok1 {P : Program} {c : Cfg} {σ : Heap} (hs : Sim c σ) (t : TypeId) {x : AV} {v : Value} (hx : c.rep x v) (h1 : x.cells.all AV.one = true) :
    ∃ c' u, (Instr.box t v).run P c.w = .ok u c'.w ∧ c.Le c' ∧ Sim c' (σ ++ [.cells x.cells 0]) ∧ c'.rep (.ptr σ.length 0 0) u ∧ Fresh1 c c' x.cells .ptr u := by
  have hxa : x ≠ .any := fun h => by subst h; simp [AV.cells, AV.one] at h1
  have hc := hx.cells hxa
  have hl : x.cells.length ≤ v.cells.size := by rw [hc.1]; exact Nat.le_refl _
  obtain ⟨hn, hle, hsim, hL⟩ := newRow_ok1 (P := P) hs t (row := x.cells) (vs := v.cells) hl (repl_get hc (all_one hc h1))
  exact ⟨_, .pointer (some ⟨c.w.heap.size, 0, none⟩), by simp [Instr.box, newVar, hn, Result.andThen], hle, hsim, .ptr hL (Nat.le_refl _) trivial (fun _ => rfl),
    v.cells, t, rfl, hl, repl_get hc (all_one hc h1), fun M L id hid => .ptr hid (Nat.le_refl _) trivial (fun _ => rfl)⟩

theorem box_ok {P : Program} {c : Cfg} {σ : Heap} (hs : Sim c σ) (t : TypeId) {x : AV} {v : Value} (hx : c.rep x v) (h1 : x.cells.all AV.one = true) :
    ∃ c' u, (Instr.box t v).run P c.w = .ok u c'.w ∧ c.Le c' ∧ Sim c' (σ ++ [.cells x.cells 0]) ∧ c'.rep (.ptr σ.length 0 0) u := by
  obtain ⟨c', v, h1, h2, h3, h4, _⟩ := box_ok1 (P := P) hs t hx h1
  exact ⟨c', v, h1, h2, h3, h4⟩

/-- Parts laid over zero values. -/
def fillA (place : Nat → Option (Nat × Nat)) (row : List AV) : List (Nat × AV) → Option (List AV)
  | [] => some row
  | (i, x) :: rest => match place i with
    | none => none
    | some (off, size) => if x.cells.length = size ∧ off + size ≤ row.length ∧ x.cells.all AV.one = true then fillA place (splice row off x.cells) rest else none

theorem foldl_set (cs : List Value) : ∀ (off k : Nat) (vs : Array Value), off + k + cs.length ≤ vs.size →
    ((cs.zipIdx k).foldl (fun a (x : Value × Nat) => a.setIfInBounds (off + x.2) x.1) vs).toList = vs.toList.take (off + k) ++ cs ++ vs.toList.drop (off + k + cs.length) := by
  induction cs with
  | nil => intro off k vs h; simp
  | cons v cs ih =>
    intro off k vs h
    simp only [List.zipIdx_cons, List.foldl_cons]
    have h' : off + (k + 1) + cs.length ≤ (vs.setIfInBounds (off + k) v).size := by simp at h ⊢; omega
    rw [ih off (k + 1) _ h']
    simp only [Array.toList_setIfInBounds]
    have hk : off + k < vs.toList.length := by simp at h ⊢; omega
    have e1 : off + (k + 1) = off + k + 1 := by omega
    rw [e1]
    apply List.ext_getElem?
    intro j
    simp only [List.getElem?_append, List.getElem?_take, List.getElem?_drop, List.getElem?_set, List.length_take, List.length_set, List.length_append, List.length_cons, List.getElem?_cons]
    simp only [List.length_cons, Array.length_toList] at h hk ⊢
    by_cases c1 : j < off + k
    · simp [show j < min (off + k + 1) vs.size + cs.length by omega, show j < min (off + k + 1) vs.size by omega, show j < off + k + 1 by omega, show ¬ off + k = j by omega, show j < min (off + k) vs.size + (cs.length + 1) by omega, show j < min (off + k) vs.size by omega, c1]
    · by_cases c2 : j = off + k
      · subst c2
        simp [show off + k < min (off + k + 1) vs.size + cs.length by omega, show off + k < min (off + k + 1) vs.size by omega, hk, show off + k < min (off + k) vs.size + (cs.length + 1) by omega, show ¬ off + k < min (off + k) vs.size by omega, show off + k - min (off + k) vs.size = 0 by omega]
      · by_cases c3 : j < off + k + 1 + cs.length
        · simp [show j < min (off + k + 1) vs.size + cs.length by omega, show ¬ j < min (off + k + 1) vs.size by omega, show j < min (off + k) vs.size + (cs.length + 1) by omega, show ¬ j < min (off + k) vs.size by omega, show ¬ j - min (off + k) vs.size = 0 by omega]
          congr 1; omega
        · simp [show ¬ j < min (off + k + 1) vs.size + cs.length by omega, show ¬ j < min (off + k) vs.size + (cs.length + 1) by omega, show ¬ off + k = off + k + 1 + cs.length + (j - (min (off + k + 1) vs.size + cs.length)) by omega]
          congr 1; omega

end Go.Tl
