/- Types, operands, and what each operation that calls nothing does to abstract values. -/
import Derived.Test.YtjcenhgfonhidaaTlA
namespace Go.Tl
open Go.RowKit

inductive Knd where
  | scalar
  | struct (fs : List (Nat × Nat))
  | array (len esz : Nat)
  | slice (elem esz ebytes : Nat)
  deriving Inhabited

structure TyRow where
  size : Nat
  bytes : Nat
  knd : Knd
  zero : List AV
  deriving Inhabited

def TyRow.agg (r : TyRow) : Bool := match r.knd with | .struct _ | .array _ _ => true | _ => false

def zeroMatch : AV → Value → Bool
  | .bool b, .bool b' => b == b'
  | .int k n, .int k' n' => k == k' && n == n'
  | .str s, .string s' => s.data.toList == s'.data.toList
  | .nilp, .pointer none => true
  | .nils, .slice none 0 0 => true
  | .nilm, .map none => true
  | .nilf, .nilFunc => true
  | .nili, .nilIface => true
  | _, _ => false

def sizeB (P : Program) (t n : Nat) : Bool := match P.info? t with | some i => i.size == n | none => false

def kndB (P : Program) : TypeDesc → Knd → Bool
  | .struct fields, .struct fs => fields.size == fs.length && (fields.toList.zip fs).all fun (f, x) => f.offset == x.1 && sizeB P f.type x.2 && x.2 != 0
  | .array len e, .array len' esz => len == len' && sizeB P e esz
  | .slice e, .slice e' esz eb => e == e' && (match P.info? e with | some i => i.size == esz && i.bytes == eb | none => false)
  | .struct _, _ | .array _ _, _ | .slice _, _ | _, .struct _ | _, .array _ _ | _, .slice _ _ _ => false
  | _, .scalar => true

def rowOkB (P : Program) (t : TypeId) (r : TyRow) : Bool :=
  match P.info? t, P.underlying t with
  | some i, some d => i.size == r.size && i.bytes == r.bytes && r.zero.length == r.size && (match i.zero with | some z => z.cells.size == r.zero.length && (r.zero.zip z.cells.toList).all (fun (x, v) => zeroMatch x v) && ((match z with | .agg _ => true | _ => false) == r.agg) | none => false) && kndB P d r.knd
  | _, _ => false

/-- Equality of two rows of plain cells. -/
def eqCells : List AV → List AV → Option Bool
  | [], [] => some true
  | .int k a :: r, .int k' b :: s => if k = k' then (eqCells r s).map fun x => a == b && x else none
  | .bool a :: r, .bool b :: s => (eqCells r s).map fun x => a == b && x
  | .str a :: r, .str b :: s => (eqCells r s).map fun x => a.toList == b.toList && x
  | _, _ => none

def AV.kindOf : AV → Nat
  | .int _ _ => 0
  | .bool _ => 1
  | .str _ => 2
  | _ => 9

/-- A function with a body, that is called as every other one. -/
def isFnB (P : Program) (k : FuncId) : Bool := match P.funcs[k]? with
  | some fn => fn.body.isSome && fn.name != "runtime.NumGoroutine"
  | none => false

theorem isFnB_run {P : Program} {k : FuncId} (h : isFnB P k = true) (args : Array Value) (w : World) : (callFunc k args).run P w = .ok (.enter k args) w := by
  unfold isFnB at h
  split at h
  case h_2 => cases h
  case h_1 fn hfn =>
    simp only [Bool.and_eq_true, bne_iff_ne, ne_eq] at h
    have hb : ¬ fn.body = none := by intro hb; simp [hb] at h
    simp [callFunc, run_program, hfn, h.2, hb]

structure Prg where
  P : Program
  mix : P.follows .mixedOrders = true
  fns : FuncId → Bool
  fnsOk : ∀ k, fns k = true → isFnB P k = true
  row : TypeId → Option TyRow
  ok : ∀ t r, row t = some r → rowOkB P t r = true
  glob : Nat → Option (List AV) := fun _ => none
  eqs : TypeId → List Nat → Bool := fun _ _ => false
  eqOk : ∀ (t : TypeId) (M : Mem) (L : List Ent) (xs ys : List AV) (us vs : Array Value) (w : World) (b : Bool), eqs t (xs.map AV.kindOf) = true → eqCells xs ys = some b → Rep M L (.agg xs) (.agg us) → Rep M L (.agg ys) (.agg vs) →
    P.eqGuardType P.depth t = false ∧ (Op.equal t (.agg us) (.agg vs)).run P w = .ok b w := by intro t M L xs ys us vs w b h; exact absurd h (by simp)

/-- The package variables that are known are protected. -/
def GOk (G : Prg) (M : Mem) : Prop := ∀ g row, G.glob g = some row → ∃ us : Nat → Value, ∀ i (h : i < row.length), M g i = some (us i) ∧ Rep M [] row[i] (us i)

theorem GOk.mono {G : Prg} {M M' : Mem} (h : Mem.le M M') (g : GOk G M) : GOk G M' := fun x row hx => by
  obtain ⟨us, hu⟩ := g x row hx
  exact ⟨us, fun i hi => ⟨h _ _ _ (hu i hi).1, Rep.mono h (hu i hi).2 (Ents.le_refl _)⟩⟩

def ofV1 : Value → Option AV
  | .bool b => some (.bool b)
  | .int k n => some (.int k n)
  | .string s => some (.str s)
  | .pointer none => some .nilp
  | .slice none 0 0 => some .nils
  | .map none => some .nilm
  | .nilFunc => some .nilf
  | .nilIface => some .nili
  | _ => none

def ofV : Value → Option AV
  | .tuple vs => if vs.size = 0 then some (.tup []) else none
  | v => ofV1 v

theorem ofV1_rep {M : Mem} {L : List Ent} {v : Value} {x : AV} (h : ofV1 v = some x) : Rep M L x v := by
  unfold ofV1 at h
  split at h <;> first | (cases h; constructor) | cases h

theorem ofV_rep {M : Mem} {L : List Ent} {v : Value} {x : AV} (h : ofV v = some x) : Rep M L x v := by
  unfold ofV at h
  split at h
  · rename_i vs
    split at h
    · rename_i h0
      cases h
      exact .tup (by simp [h0]) (fun i h => by cases h)
    · cases h
  · exact ofV1_rep h

def ev (G : Prg) (env : List AV) : Operand → Option AV
  | .tmp t => env[t]?
  | .const v => ofV v
  | .global g => (G.glob g).map (.fptr · 0)
  | .func f => some (.fn f [] [])

theorem ev_rep {G : Prg} {c : Cfg} {env : List AV} {a : Act} (hG : GOk G c.M) (he : RepL c.M c.L env a.tmps) {x : Operand} {y : AV} (h : ev G env x = some y) : c.rep y (a.eval x) := by
  cases x with
  | tmp t =>
    simp only [ev] at h
    have hlt : t < a.tmps.size := by rw [← he.1]; exact (List.getElem?_eq_some_iff.1 h).1
    have := he.2 t y a.tmps[t] h (Array.getElem?_eq_getElem hlt)
    simpa [Act.eval, Array.getD_eq_getD_getElem?, hlt] using this
  | const v => exact ofV_rep h
  | global g =>
    simp only [ev, Option.map_eq_some_iff] at h
    obtain ⟨row, h, rfl⟩ := h
    obtain ⟨us, hu⟩ := hG g row h
    have := Rep.fptr (M := c.M) (L := c.L) (row := row) (off := 0) (b := g) (o := 0) us (fun i hi => by rw [Nat.zero_add]; exact (hu i hi).1) (fun i hi => (hu i hi).2)
    simpa [Act.eval] using this
  | func f =>
    cases h
    exact .fn (by simp) (by simp) (fun i h => by cases h) (fun i h => by cases h)

def AV.one : AV → Bool
  | .agg _ | .tup _ | .any => false
  | _ => true

theorem Rep.one {M : Mem} {L : List Ent} {x : AV} {v : Value} (h : Rep M L x v) (h1 : x.one = true) : oneCell v := by
  cases h <;> first | assumption | trivial | simp [AV.one] at h1

def AV.cells : AV → List AV
  | .agg cs => cs
  | x => [x]

theorem RepL.get {M : Mem} {L : List Ent} {xs : List AV} {vs : Array Value} (h : RepL M L xs vs) {i : Nat} {x : AV} (hx : xs[i]? = some x) : ∃ v, vs[i]? = some v ∧ Rep M L x v := by
  have hlt : i < vs.size := by rw [← h.1]; exact (List.getElem?_eq_some_iff.1 hx).1
  exact ⟨vs[i], Array.getElem?_eq_getElem hlt, h.2 i x _ hx (Array.getElem?_eq_getElem hlt)⟩

theorem repL_agg {M : Mem} {L : List Ent} {xs : List AV} {vs : Array Value} : Rep M L (.agg xs) (.agg vs) ↔ RepL M L xs vs := by
  constructor
  · intro h
    cases h with
    | agg h1 r =>
      refine ⟨h1, fun i x v hx hv => ?_⟩
      obtain ⟨h2, rfl⟩ := List.getElem?_eq_some_iff.1 hx
      obtain ⟨h3, rfl⟩ := Array.getElem?_eq_some_iff.1 hv
      exact r i h2
  · rintro ⟨h1, r⟩
    exact .agg h1 (fun i h => r i _ _ (List.getElem?_eq_getElem h) (Array.getElem?_eq_getElem _))

theorem repL_tup {M : Mem} {L : List Ent} {xs : List AV} {vs : Array Value} : Rep M L (.tup xs) (.tuple vs) ↔ RepL M L xs vs := by
  constructor
  · intro h
    cases h with
    | tup h1 r =>
      refine ⟨h1, fun i x v hx hv => ?_⟩
      obtain ⟨h2, rfl⟩ := List.getElem?_eq_some_iff.1 hx
      obtain ⟨h3, rfl⟩ := Array.getElem?_eq_some_iff.1 hv
      exact r i h2
  · rintro ⟨h1, r⟩
    exact .tup h1 (fun i h => r i _ _ (List.getElem?_eq_getElem h) (Array.getElem?_eq_getElem _))

theorem rep_agg_inv {M : Mem} {L : List Ent} {xs : List AV} {v : Value} (h : Rep M L (.agg xs) v) : ∃ vs, v = .agg vs ∧ RepL M L xs vs := by
  cases h with
  | agg h1 r => exact ⟨_, rfl, repL_agg.1 (.agg h1 r)⟩

theorem rep_tup_inv {M : Mem} {L : List Ent} {xs : List AV} {v : Value} (h : Rep M L (.tup xs) v) : ∃ vs, v = .tuple vs ∧ RepL M L xs vs := by
  cases h with
  | tup h1 r => exact ⟨_, rfl, repL_tup.1 (.tup h1 r)⟩

theorem repL_one {M : Mem} {L : List Ent} {x : AV} {v : Value} (h : Rep M L x v) : RepL M L [x] #[v] := by
  refine ⟨rfl, fun i y u hy hu => ?_⟩
  cases i with
  | zero => simp at hy hu; subst hy; subst hu; exact h
  | succ i => simp at hy

theorem RepL.append {M : Mem} {L : List Ent} {p q : List AV} {u v : Array Value} (hp : RepL M L p u) (hq : RepL M L q v) : RepL M L (p ++ q) (u ++ v) := by
  refine ⟨by simp [hp.1, hq.1], fun i x y hx hy => ?_⟩
  by_cases hi : i < p.length
  · rw [List.getElem?_append_left hi] at hx
    rw [Array.getElem?_append_left (by rw [← hp.1]; exact hi)] at hy
    exact hp.2 i x y hx hy
  · rw [List.getElem?_append_right (by omega)] at hx
    rw [Array.getElem?_append_right (by rw [← hp.1]; omega), ← hp.1] at hy
    exact hq.2 _ x y hx hy

theorem repL_nil {M : Mem} {L : List Ent} : RepL M L [] #[] := ⟨rfl, fun i y u hy => by simp at hy⟩

theorem rep_ptr_inv {M : Mem} {L : List Ent} {id g off : Nat} {v : Value} (h : Rep M L (.ptr id g off) v) : ∃ e, L[id]? = some e ∧ g ≤ e.g ∧ oneCell v ∧ (g = e.g → v = .pointer (some ⟨e.b, off, none⟩)) := by
  cases h; exact ⟨_, by assumption, by assumption, by assumption, by assumption⟩
theorem rep_sl_inv {M : Mem} {L : List Ent} {id g off len sz : Nat} {v : Value} (h : Rep M L (.sl id g off len sz) v) : ∃ e, L[id]? = some e ∧ g ≤ e.g ∧ oneCell v ∧
    (g = e.g → ∃ cap, v = .slice (some ⟨e.b, off, none⟩) len cap ∧ len ≤ cap ∧ off + len * sz ≤ e.used ∧ e.used ≤ off + cap * sz ∧ off + cap * sz ≤ e.cs) := by
  cases h; exact ⟨_, by assumption, by assumption, by assumption, by assumption⟩
theorem rep_fptr_inv {M : Mem} {L : List Ent} {row : List AV} {off : Nat} {v : Value} (h : Rep M L (.fptr row off) v) : ∃ b o, ∃ us : Nat → Value, v = .pointer (some ⟨b, o + off, none⟩) ∧
    (∀ i, i < row.length → M b (o + i) = some (us i)) ∧ ∀ i (h : i < row.length), Rep M [] row[i] (us i) := by
  cases h; exact ⟨_, _, _, rfl, by assumption, by assumption⟩
theorem rep_fs_inv {M : Mem} {L : List Ent} {row : List AV} {len : Nat} {v : Value} (h : Rep M L (.fs row len) v) : ∃ b o cap, ∃ us : Nat → Value, v = .slice (some ⟨b, o, none⟩) len cap ∧ len ≤ cap ∧
    (∀ i, i < row.length → M b (o + i) = some (us i)) ∧ ∀ i (h : i < row.length), Rep M [] row[i] (us i) := by
  cases h; exact ⟨_, _, _, _, rfl, by assumption, by assumption, by assumption⟩

/-- A value's cells. -/
theorem Rep.cells {M : Mem} {L : List Ent} {x : AV} {v : Value} (h : Rep M L x v) (ha : x ≠ .any) : RepL M L x.cells v.cells := by
  by_cases hx : ∃ cs, x = .agg cs
  · obtain ⟨cs, rfl⟩ := hx
    obtain ⟨vs, rfl, hr⟩ := rep_agg_inv h
    exact hr
  · have h1 : x.cells = [x] := by cases x <;> first | rfl | exact absurd ⟨_, rfl⟩ hx
    have h2 : v.cells = #[v] := by
      cases h <;> first | rfl | exact absurd rfl ha | exact absurd ⟨_, rfl⟩ hx | (rename_i h1 _; cases v <;> first | rfl | exact h1.elim) | (rename_i h1 _ _; cases v <;> first | rfl | exact h1.elim) | skip
    rw [h1, h2]
    exact repL_one h

theorem str_case {s s' : ByteArray} (hx : (s.data.toList == s'.data.toList) = true) : oneCell (.string s') ∧ ∀ (M : Mem) (L : List Ent), Rep M L (.str s) (.string s') := by
  obtain rfl : s = s' := by
    cases s; cases s'; simp at hx; subst hx; rfl
  exact ⟨trivial, fun _ _ => by constructor⟩

/-! ### Rows of types -/
section rows
variable {G : Prg} {t : TypeId} {r : TyRow}

theorem row_info (h : G.row t = some r) : ∃ i d, G.P.info? t = some i ∧ G.P.underlying t = some d ∧ i.size = r.size ∧ i.bytes = r.bytes ∧ r.zero.length = r.size ∧
    (∃ z, i.zero = some z ∧ z.cells.size = r.zero.length ∧ (∀ (M : Mem) (L : List Ent), RepL M L r.zero z.cells) ∧ (∀ v ∈ z.cells, oneCell v) ∧ (r.agg = true ↔ ∃ cs, z = .agg cs)) ∧ kndB G.P d r.knd = true := by
  have := G.ok t r h
  unfold rowOkB at this
  split at this
  case h_2 => cases this
  case h_1 i d hi hd =>
    simp only [Bool.and_eq_true, beq_iff_eq] at this
    obtain ⟨⟨⟨⟨h1, h2⟩, h3⟩, h4⟩, h5⟩ := this
    refine ⟨i, d, hi, hd, h1, h2, h3, ?_, h5⟩
    split at h4
    case h_2 => cases h4
    case h_1 z hz =>
      simp only [Bool.and_eq_true, beq_iff_eq] at h4
      obtain ⟨⟨h6, h7⟩, h8⟩ := h4
      have hm : ∀ (i : Nat) (x : AV) (v : Value), r.zero[i]? = some x → z.cells[i]? = some v → zeroMatch x v = true := fun i x v hx hv => by
        have := List.all_eq_true.1 h7 (x, v) (List.mem_of_getElem? (i := i) (by rw [List.getElem?_zip_eq_some]; exact ⟨hx, by simpa using hv⟩))
        exact this
      have hz1 : ∀ (x : AV) (v : Value), zeroMatch x v = true → oneCell v ∧ ∀ (M : Mem) (L : List Ent), Rep M L x v := fun x v hx => by
        unfold zeroMatch at hx
        split at hx <;> first | (simp at hx; obtain ⟨rfl, rfl⟩ := hx; exact ⟨trivial, fun _ _ => by constructor⟩) | (simp at hx; subst hx; exact ⟨trivial, fun _ _ => by constructor⟩) | exact ⟨trivial, fun _ _ => by constructor⟩ | cases hx | exact str_case hx
      refine ⟨z, hz, h6, fun M L => ⟨h6.symm, fun i x v hx hv => (hz1 x v (hm i x v hx hv)).2 M L⟩, fun v hv => ?_, ?_⟩
      · obtain ⟨i, hi, rfl⟩ := Array.mem_iff_getElem.1 hv
        have hlt : i < r.zero.length := by rw [← h6]; exact hi
        exact (hz1 _ _ (hm i _ _ (List.getElem?_eq_getElem hlt) (Array.getElem?_eq_getElem hi))).1
      · rw [← h8]
        cases z <;> simp
end rows

end Go.Tl
