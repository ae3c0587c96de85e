/- Calls that lend: the callee sees the caller's live values frozen for as long as it runs; what it answers is made of new blocks and plain values only. -/
import Derived.Test.YtjcenhgfonhidaaTlQ
namespace Go.Tl
open Go.RowKit

/-- As 'fz', of a value that holds nothing frozen: what it reaches are live blocks, and plain values. -/
def fzn (σ : Heap) : Nat → AV → Option AV
  | 0, _ => none
  | d + 1, x => match x with
    | .sl id g off len sz => match σ[id]? with
      | some (.cells row g') => if g = g' then (mapO (fzn σ d) ((row.drop off).take (len * sz))).map fun r => .fs r len else none
      | _ => none
    | .ptr id g off => match σ[id]? with
      | some (.cells row g') => if g = g' then (mapO (fzn σ d) row).map fun r => .fptr r off else none
      | _ => none
    | .mp _ | .yl _ | .fn _ _ _ | .ifc _ _ | .fs _ _ | .fptr _ _ => none
    | .agg cs => (mapO (fzn σ d) cs).map .agg
    | .tup cs => (mapO (fzn σ d) cs).map .tup
    | x => some x

theorem mapO_mono {f g : AV → Option AV} (h : ∀ x y, f x = some y → g x = some y) : ∀ {xs ys : List AV}, mapO f xs = some ys → mapO g xs = some ys
  | [], ys, hm => hm
  | x :: xs, ys, hm => by
    simp only [mapO] at hm ⊢
    split at hm
    case h_2 => cases hm
    case h_1 y ys' h1 h2 => cases hm; rw [h _ _ h1, mapO_mono h h2]

theorem fzn_fz {σ : Heap} : ∀ (d : Nat) (x y : AV), fzn σ d x = some y → fz σ d x = some y
  | 0, _, _, h => by cases h
  | d + 1, x, y, h => by
    simp only [fzn] at h
    simp only [fz]
    cases x <;> simp only at h ⊢ <;> first | exact h | cases h | skip
    case ptr =>
      split at h
      case h_2 => cases h
      case h_1 row g' hs =>
        split at h
        case isFalse => cases h
        case isTrue hg =>
          obtain ⟨z, hz, rfl⟩ := Option.map_eq_some_iff.1 h
          simp only [hs, if_pos hg, mapO_mono (fun a b => fzn_fz d a b) hz, Option.map_some]
    case sl =>
      split at h
      case h_2 => cases h
      case h_1 row g' hs =>
        split at h
        case isFalse => cases h
        case isTrue hg =>
          obtain ⟨z, hz, rfl⟩ := Option.map_eq_some_iff.1 h
          simp only [hs, if_pos hg, mapO_mono (fun a b => fzn_fz d a b) hz, Option.map_some]
    case agg => obtain ⟨z, hz, rfl⟩ := Option.map_eq_some_iff.1 h; rw [mapO_mono (fun a b => fzn_fz d a b) hz]; rfl
    case tup => obtain ⟨z, hz, rfl⟩ := Option.map_eq_some_iff.1 h; rw [mapO_mono (fun a b => fzn_fz d a b) hz]; rfl

/-- The cells of the blocks from n on are as 'frozenM' has them; the others as the caller had them. -/
noncomputable def newM (n : Nat) (c' : Cfg) (M : Mem) : Mem := fun b o => if n ≤ b then frozenM c' b o else M b o

theorem newM_in {n : Nat} {c : Cfg} {M : Mem} {e : Ent} (hn : n ≤ e.b) (he : e ∈ c.L) (o : Nat) : newM n c M e.b o = c.w.cell? ⟨e.b, o, none⟩ := by
  unfold newM
  rw [if_pos hn, frozenM_in he]

theorem fzn_rep {c : Cfg} {σ : Heap} {n : Nat} {M : Mem} (hs : Sim c σ) (hn : ∀ e ∈ c.L, n ≤ e.b) : ∀ (d : Nat) (x y : AV) (v : Value), c.rep x v → fzn σ d x = some y → Rep (newM n c M) [] y v
  | 0, _, _, _, _, h => by cases h
  | d + 1, x, y, v, hx, h => by
    have hl : ∀ (xs ys : List AV) (us : Nat → Value), (∀ i (h : i < xs.length), c.rep xs[i] (us i)) → mapO (fzn σ d) xs = some ys → ys.length = xs.length ∧ ∀ i (h : i < ys.length), Rep (newM n c M) [] ys[i] (us i) := fun xs ys us hr hm => by
      obtain ⟨h1, h2⟩ := mapO_get hm
      exact ⟨h1, fun i hi => fzn_rep hs hn d _ _ _ (hr i (by omega)) (h2 i (by omega) hi)⟩
    simp only [fzn] at h
    cases x <;> simp only at h
    case bool => cases h; cases hx; exact .bool _
    case int => cases h; cases hx; exact .int _ _
    case str => cases h; cases hx; exact .str _
    case nilp => cases h; cases hx; exact .nilp
    case nils => cases h; cases hx; exact .nils
    case es => cases h; cases hx; exact .es _
    case eu => cases h; cases hx; exact .eu _ _
    case nilm => cases h; cases hx; exact .nilm
    case nilf => cases h; cases hx; exact .nilf
    case nili => cases h; cases hx; exact .nili
    case any => cases h; cases hx; exact .any _
    case fptr => cases h
    case fs => cases h
    case mp => cases h
    case yl => cases h
    case ifc => cases h
    case fn => cases h
    case agg cs =>
      obtain ⟨z, hz, rfl⟩ := Option.map_eq_some_iff.1 h
      cases hx with
      | agg h1 r =>
        rename_i vs
        obtain ⟨q1, q2⟩ := hl cs z (fun i => vs.getD i undef) (fun i hi => by have := r i hi; simpa [Array.getD_eq_getD_getElem?, h1 ▸ hi] using this) hz
        exact .agg (by rw [q1, h1]) (fun i hi => by have := q2 i hi; have hi' : i < vs.size := (by omega); simpa [Array.getD_eq_getD_getElem?, hi'] using this)
    case tup cs =>
      obtain ⟨z, hz, rfl⟩ := Option.map_eq_some_iff.1 h
      cases hx with
      | tup h1 r =>
        rename_i vs
        obtain ⟨q1, q2⟩ := hl cs z (fun i => vs.getD i undef) (fun i hi => by have := r i hi; simpa [Array.getD_eq_getD_getElem?, h1 ▸ hi] using this) hz
        exact .tup (by rw [q1, h1]) (fun i hi => by have := q2 i hi; have hi' : i < vs.size := (by omega); simpa [Array.getD_eq_getD_getElem?, hi'] using this)
    case sl id g off len sz =>
      split at h
      case h_2 => cases h
      case h_1 row g' hσ =>
        split at h
        case isFalse => cases h
        case isTrue hgg =>
          subst hgg
          obtain ⟨z, hz, rfl⟩ := Option.map_eq_some_iff.1 h
          obtain ⟨e, he, hg, h1, hv⟩ := rep_sl_inv hx
          obtain ⟨k1, k2, k3, cs, ty, k4, k5, k6, k7⟩ := hs.blk _ _ _ he hσ
          obtain ⟨cap, rfl, c1, c2, c3, c4⟩ := hv k1.symm
          have hlen : ((row.drop off).take (len * sz)).length = len * sz := by simp; omega
          obtain ⟨q1, q2⟩ := hl _ z (fun i => (cs[off + i]?).getD undef) (fun i hi => by
            rw [hlen] at hi
            have hlt : off + i < row.length := by omega
            obtain ⟨u, hu, hr, _⟩ := k7 _ _ (List.getElem?_eq_getElem hlt)
            simp only [List.getElem_take, List.getElem_drop, hu]
            exact hr) hz
          rw [hlen] at q1
          refine .fs c1 _ (fun i hi => ?_) q2
          rw [newM_in (hn _ (List.mem_of_getElem? he)) (List.mem_of_getElem? he)]
          have hlt : off + i < cs.size := by omega
          simp [World.cell?, k4, hlt]
    case ptr id g off =>
      split at h
      case h_2 => cases h
      case h_1 row g' hσ =>
        split at h
        case isFalse => cases h
        case isTrue hgg =>
          subst hgg
          obtain ⟨z, hz, rfl⟩ := Option.map_eq_some_iff.1 h
          obtain ⟨e, he, hg, h1, hv⟩ := rep_ptr_inv hx
          obtain ⟨k1, k2, k3, cs, ty, k4, k5, k6, k7⟩ := hs.blk _ _ _ he hσ
          have hv := hv k1.symm
          subst hv
          obtain ⟨q1, q2⟩ := hl _ z (fun i => (cs[i]?).getD undef) (fun i hi => by
            obtain ⟨u, hu, hr, _⟩ := k7 _ _ (List.getElem?_eq_getElem hi)
            simp only [hu]
            exact hr) hz
          have := Rep.fptr (M := newM n c M) (L := []) (row := z) (off := off) (b := e.b) (o := 0) (fun i => (cs[i]?).getD undef) (fun i hi => by
            rw [newM_in (hn _ (List.mem_of_getElem? he)) (List.mem_of_getElem? he)]
            have hlt : i < cs.size := by omega
            simp [World.cell?, k4, hlt]) q2
          simpa using this

/-- A function whose answer is made of new blocks and plain values, whatever it is handed (frozen). -/
def PureN (G : Prg) (k : FuncId) (args : List AV) (r : AV) : Prop := Fn G k args [] fun v σ => fzn σ 8 v = some r

theorem PureN.pure {G : Prg} {k : FuncId} {args : List AV} {r : AV} (h : PureN G k args r) : Pure G k args r := Fn.mono h fun _ _ h => fzn_fz 8 _ _ h

theorem fz_repL {c : Cfg} {σ : Heap} (hs : Sim c σ) {xs ys : List AV} {vs : Array Value} (hx : RepL c.M c.L xs vs) (h : mapO (fz σ 8) xs = some ys) : RepL (frozenM c) [] ys vs := by
  obtain ⟨h1, h2⟩ := mapO_get h
  refine ⟨by rw [h1]; exact hx.1, fun i y v hy hv => ?_⟩
  obtain ⟨hlt, rfl⟩ := List.getElem?_eq_some_iff.1 hy
  have hlt' : i < xs.length := by omega
  exact fz_rep hs 8 _ _ _ (hx.2 i _ v (List.getElem?_eq_getElem hlt') hv) (h2 i hlt' hlt)

theorem PureN.lend {G : Prg} {k : FuncId} {args args' : List AV} {r : AV} (h : PureN G k args' r) {σ : Heap} (ha : mapO (fz σ 8) args = some args') {K : AV → Heap → Prop} (hk : K r σ) : Fn G k args σ K := by
  intro c vs hG hs hv
  have hle0 : Mem.le c.M (frozenM c) := frozenM_le hs
  have hs1 : Sim ⟨frozenM c, [], c.w⟩ [] := ⟨rfl, (fun b o v hM => frozenM_prot hs b o v hM), (fun e he => by cases he), (fun id e k he => by simp at he), (fun i j e e' k he => by simp at he)⟩
  refine (h ⟨frozenM c, [], c.w⟩ vs (GOk.mono hle0 hG) hs1 (fz_repL hs hv ha)).mono ?_
  rintro e w' ⟨c', v, r', σ', rfl, q1, q2, rfl, q4, q5⟩
  have hfresh : ∀ e ∈ c'.L, c.w.heap.size ≤ e.b := fun e he => by
    rcases q1.fresh e he with ⟨e0, h0, _⟩ | h0
    · cases h0
    · exact h0
  have hkeep : ∀ b, b < c.w.heap.size → c'.w.heap[b]? = c.w.heap[b]? := fun b hb => q1.keep b hb (fun e he => by cases he)
  have hr := fzn_rep (M := c.M) q2 hfresh 8 _ _ _ q4 q5
  have hMold : ∀ b o, b < c.w.heap.size → newM c.w.heap.size c' c.M b o = c.M b o := fun b o hb => by
    unfold newM; rw [if_neg (by omega)]
  have hMle : Mem.le c.M (newM c.w.heap.size c' c.M) := fun b o v hM => by
    have hlt : b < c.w.heap.size := by
      have := hs.prot _ _ _ hM
      rcases Nat.lt_or_ge b c.w.heap.size with h | h
      · exact h
      · simp [World.cell?, Array.getElem?_eq_none h] at this
    rw [hMold b o hlt]; exact hM
  have hle : c.Le ⟨newM c.w.heap.size c' c.M, c.L, c'.w⟩ := by
    refine ⟨hMle, Ents.le_refl _, q1.size, fun b hb _ => hkeep b hb, fun e he => .inl ⟨e, he, rfl⟩, fun b o hne => .inr ?_, q1.out, q1.os, q1.loops⟩
    rcases Nat.lt_or_ge b c.w.heap.size with h | h
    · exact absurd (hMold b o h) hne
    · exact h
  refine ⟨⟨newM c.w.heap.size c' c.M, c.L, c'.w⟩, v, r, σ, rfl, hle, ?_, rfl, Rep.mono (fun _ _ _ h => h) hr (Ents.nil_le _), hk⟩
  refine ⟨hs.len, fun b o u (hM : newM c.w.heap.size c' c.M b o = some u) => ?_, fun e he => Nat.lt_of_lt_of_le (hs.lt e he) q1.size, fun id e k he hk => ?_, hs.inj⟩
  · show c'.w.cell? ⟨b, o, none⟩ = some u
    rcases Nat.lt_or_ge b c.w.heap.size with hb | hb
    · rw [cell?_of_heap (hkeep b hb)]
      rw [hMold b o hb] at hM
      exact hs.prot _ _ _ hM
    · have : newM c.w.heap.size c' c.M b o = frozenM c' b o := by unfold newM; rw [if_pos hb]
      rw [this] at hM
      exact frozenM_prot q2 b o u hM
  · have hlt := hs.lt e (List.mem_of_getElem? he)
    exact BOk.mono hle (hkeep _ hlt) (fun o => hMold _ o hlt) (hs.blk id e k he hk)

/-- What such a function ends with. -/
def PureNQ (r : AV) (v : AV) (σ : Heap) : Prop := fzn σ 8 v = some r
theorem PureNQ_eq {r v : AV} {σ : Heap} : PureNQ r v σ = (fzn σ 8 v = some r) := rfl
theorem PureN.intro (pls : Plans) {G : Prg} {k : FuncId} {fn : Func} {code : Code} {args : List AV} {r : AV} (n : Nat) (rs : Array ResultVar) (hf : G.P.funcs[k]? = some fn) (hb : fn.body = some code) (hn : fn.ntmps = n) (hr : fn.results = rs) (hl : args.length ≤ n) (hp : codeB pls code = true)
    (h : RunC G pls code (mkE n (numb 0 args)) [] (Ends G rs.toList (PureNQ r))) : PureN G k args r := by
  subst hn; subst hr
  exact Fn.intro pls hf hb hp (by rw [mkE_start _ _ hl]; exact h)

section
variable {σ : Heap} {d : Nat}
theorem fzn_sl {id g off len sz : Nat} : fzn σ (d + 1) (.sl id g off len sz) = (match σ[id]? with
      | some (.cells row g') => if g = g' then (mapO (fzn σ d) ((row.drop off).take (len * sz))).map fun r => .fs r len else none
      | _ => none) := rfl
theorem fzn_ptr {id g off : Nat} : fzn σ (d + 1) (.ptr id g off) = (match σ[id]? with
      | some (.cells row g') => if g = g' then (mapO (fzn σ d) row).map fun r => .fptr r off else none
      | _ => none) := rfl
theorem fzn_agg {cs : List AV} : fzn σ (d + 1) (.agg cs) = (mapO (fzn σ d) cs).map .agg := rfl
theorem fzn_tup {cs : List AV} : fzn σ (d + 1) (.tup cs) = (mapO (fzn σ d) cs).map .tup := rfl
theorem fzn_int {k : IntKind} {n : Int} : fzn σ (d + 1) (.int k n) = some (.int k n) := rfl
theorem fzn_bool {b : Bool} : fzn σ (d + 1) (.bool b) = some (.bool b) := rfl
theorem fzn_str {s : ByteArray} : fzn σ (d + 1) (.str s) = some (.str s) := rfl
theorem fzn_nilp : fzn σ (d + 1) .nilp = some .nilp := rfl
theorem fzn_nils : fzn σ (d + 1) .nils = some .nils := rfl
theorem fzn_es : fzn σ (d + 1) .es = some .es := rfl
theorem fzn_eu : fzn σ (d + 1) .eu = some .eu := rfl
theorem fzn_nilm : fzn σ (d + 1) .nilm = some .nilm := rfl
theorem fzn_nilf : fzn σ (d + 1) .nilf = some .nilf := rfl
theorem fzn_nili : fzn σ (d + 1) .nili = some .nili := rfl
end

theorem mapO_cons {f : AV → Option AV} {x y : AV} {xs ys : List AV} (h1 : f x = some y) (h2 : mapO f xs = some ys) : mapO f (x :: xs) = some (y :: ys) := by simp only [mapO, h1, h2]
theorem mapO_id {f : AV → Option AV} : ∀ {xs : List AV}, (∀ x ∈ xs, f x = some x) → mapO f xs = some xs
  | [], _ => rfl
  | x :: xs, h => mapO_cons (h x (List.mem_cons_self ..)) (mapO_id fun y hy => h y (List.mem_cons_of_mem _ hy))

attribute [go_sem] fzn_sl fzn_ptr fzn_agg fzn_tup fzn_int fzn_bool fzn_str fzn_nilp fzn_nils fzn_es fzn_eu fzn_nilm fzn_nilf fzn_nili PureNQ_eq

end Go.Tl
