/- Calls of functions that are handed nothing live; what is new becomes frozen. -/
import Derived.Test.YtjcenhgfonhidaaTlK
namespace Go.Tl
open Go.RowKit

mutual
def AV.noLive : AV → Bool
  | .ptr _ _ _ | .sl _ _ _ _ _ | .mp _ | .yl _ => false
  | .fn _ first cap => noLiveL first && noLiveL cap
  | .ifc _ x => x.noLive
  | .agg cs => noLiveL cs
  | .tup cs => noLiveL cs
  | _ => true
def noLiveL : List AV → Bool
  | [] => true
  | x :: xs => x.noLive && noLiveL xs
end

theorem noLiveL_get : ∀ {xs : List AV}, noLiveL xs = true → ∀ i (h : i < xs.length), xs[i].noLive = true
  | x :: xs, h, 0, _ => by simp [noLiveL] at h; exact h.1
  | x :: xs, h, i + 1, hi => by simp [noLiveL] at h; exact noLiveL_get h.2 i (by simpa using hi)

theorem Rep.noLive {M : Mem} {L : List Ent} {x : AV} {v : Value} (h : Rep M L x v) : x.noLive = true → ∀ L', Rep M L' x v := by
  induction h with
  | bool b => exact fun _ _ => .bool b
  | int k n => exact fun _ _ => .int k n
  | str s => exact fun _ _ => .str s
  | nilp => exact fun _ _ => .nilp
  | ptr => intro h; simp [AV.noLive] at h
  | fptr us hm hr ih => exact fun _ _ => .fptr us hm hr
  | nils => exact fun _ _ => .nils
  | es a => exact fun _ _ => .es a
  | eu a n => exact fun _ _ => .eu a n
  | sl => intro h; simp [AV.noLive] at h
  | fs hl us hm hr ih => exact fun _ _ => .fs hl us hm hr
  | nilm => exact fun _ _ => .nilm
  | mp => intro h; simp [AV.noLive] at h
  | fn h1 h2 r1 r2 ih1 ih2 =>
    intro h L'
    simp [AV.noLive] at h
    exact .fn h1 h2 (fun i hi => ih1 i hi (noLiveL_get h.1 i hi) L') (fun i hi => ih2 i hi (noLiveL_get h.2 i hi) L')
  | yl => intro h; simp [AV.noLive] at h
  | nilf => exact fun _ _ => .nilf
  | ifc h ih => intro h L'; simp [AV.noLive] at h; exact .ifc (ih h L')
  | nili => exact fun _ _ => .nili
  | agg h1 r ih => intro h L'; simp [AV.noLive] at h; exact .agg h1 (fun i hi => ih i hi (noLiveL_get h i hi) L')
  | tup h1 r ih => intro h L'; simp [AV.noLive] at h; exact .tup h1 (fun i hi => ih i hi (noLiveL_get h i hi) L')
  | any v => exact fun _ _ => .any v

theorem RepL.noLive {M : Mem} {L : List Ent} {xs : List AV} {vs : Array Value} (h : RepL M L xs vs) (hn : noLiveL xs = true) (L' : List Ent) : RepL M L' xs vs :=
  ⟨h.1, fun i x v hx hv => by
    obtain ⟨hlt, rfl⟩ := List.getElem?_eq_some_iff.1 hx
    exact (h.2 i _ v hx hv).noLive (noLiveL_get hn i hlt) L'⟩

/-! ### Freezing -/
def mapO (f : AV → Option AV) : List AV → Option (List AV)
  | [] => some []
  | x :: xs => match f x, mapO f xs with
    | some y, some ys => some (y :: ys)
    | _, _ => none

theorem mapO_get {f : AV → Option AV} : ∀ {xs ys : List AV}, mapO f xs = some ys → ys.length = xs.length ∧ ∀ i (h : i < xs.length) (h' : i < ys.length), f xs[i] = some ys[i]
  | [], ys, h => by cases h; exact ⟨rfl, fun i h => by simp at h⟩
  | x :: xs, ys, h => by
    simp only [mapO] at h
    split at h
    case h_2 => cases h
    case h_1 y ys' h1 h2 =>
      cases h
      obtain ⟨h3, h4⟩ := mapO_get h2
      refine ⟨by simp [h3], fun i hi hi' => ?_⟩
      cases i with
      | zero => exact h1
      | succ i => exact h4 i (by simpa using hi) (by simpa using hi')

/-- The value with all that it reaches frozen. -/
def fz (σ : Heap) : Nat → AV → Option AV
  | 0, _ => none
  | d + 1, x => match x with
    | .sl id g off len sz => match σ[id]? with
      | some (.cells row g') => if g = g' then (mapO (fz σ d) ((row.drop off).take (len * sz))).map fun r => .fs r len else none
      | _ => none
    | .ptr id g off => match σ[id]? with
      | some (.cells row g') => if g = g' then (mapO (fz σ d) row).map fun r => .fptr r off else none
      | _ => none
    | .mp _ | .yl _ => none
    | .fn f first cap => match mapO (fz σ d) first, mapO (fz σ d) cap with
      | some a, some b => some (.fn f a b)
      | _, _ => none
    | .ifc t y => (fz σ d y).map (.ifc t)
    | .agg cs => (mapO (fz σ d) cs).map .agg
    | .tup cs => (mapO (fz σ d) cs).map .tup
    | x => some x

theorem noLiveL_of : ∀ {xs : List AV}, (∀ i (h : i < xs.length), xs[i].noLive = true) → noLiveL xs = true
  | [], _ => rfl
  | x :: xs, h => by
    simp only [noLiveL, Bool.and_eq_true]
    exact ⟨h 0 (by simp), noLiveL_of (fun i hi => h (i + 1) (by simpa using hi))⟩

theorem fz_noLive {σ : Heap} : ∀ (d : Nat) (x y : AV), fz σ d x = some y → y.noLive = true
  | 0, _, _, h => by cases h
  | d + 1, x, y, h => by
    have hl : ∀ xs ys, mapO (fz σ d) xs = some ys → noLiveL ys = true := fun xs ys hm => by
      obtain ⟨h1, h2⟩ := mapO_get hm
      exact noLiveL_of (fun i hi => fz_noLive d _ _ (h2 i (by omega) hi))
    simp only [fz] at h
    cases x <;> simp only at h <;> first | (cases h; rfl) | cases h | skip
    case ptr => split at h <;> first | cases h | (split at h <;> first | cases h | (obtain ⟨z, hz, rfl⟩ := Option.map_eq_some_iff.1 h; rfl))
    case sl => split at h <;> first | cases h | (split at h <;> first | cases h | (obtain ⟨z, hz, rfl⟩ := Option.map_eq_some_iff.1 h; rfl))
    case fn =>
      split at h
      case h_2 => cases h
      case h_1 a b ha hb => cases h; simp [AV.noLive, hl _ _ ha, hl _ _ hb]
    case ifc => obtain ⟨z, hz, rfl⟩ := Option.map_eq_some_iff.1 h; simp [AV.noLive, fz_noLive d _ _ hz]
    case agg => obtain ⟨z, hz, rfl⟩ := Option.map_eq_some_iff.1 h; simp [AV.noLive, hl _ _ hz]
    case tup => obtain ⟨z, hz, rfl⟩ := Option.map_eq_some_iff.1 h; simp [AV.noLive, hl _ _ hz]

/-- All cells of live blocks are protected. -/
noncomputable def frozenM (c : Cfg) : Mem := fun b o => open Classical in if ∃ e ∈ c.L, e.b = b then c.w.cell? ⟨b, o, none⟩ else c.M b o

theorem frozenM_prot {c : Cfg} {σ : Heap} (hs : Sim c σ) (b o : Nat) (v : Value) (h : frozenM c b o = some v) : c.w.cell? ⟨b, o, none⟩ = some v := by
  unfold frozenM at h
  split at h
  · exact h
  · exact hs.prot _ _ _ h

theorem frozenM_le {c : Cfg} {σ : Heap} (hs : Sim c σ) : Mem.le c.M (frozenM c) := fun b o v h => by
  unfold frozenM
  split
  · exact hs.prot _ _ _ h
  · exact h

theorem frozenM_in {c : Cfg} {e : Ent} (he : e ∈ c.L) (o : Nat) : frozenM c e.b o = c.w.cell? ⟨e.b, o, none⟩ := by
  unfold frozenM
  rw [if_pos ⟨e, he, rfl⟩]

theorem fz_rep {c : Cfg} {σ : Heap} (hs : Sim c σ) : ∀ (d : Nat) (x y : AV) (v : Value), c.rep x v → fz σ d x = some y → Rep (frozenM c) [] y v
  | 0, _, _, _, _, h => by cases h
  | d + 1, x, y, v, hx, h => by
    have hl : ∀ (xs ys : List AV) (us : Nat → Value), (∀ i (h : i < xs.length), c.rep xs[i] (us i)) → mapO (fz σ d) xs = some ys → ys.length = xs.length ∧ ∀ i (h : i < ys.length), Rep (frozenM c) [] ys[i] (us i) := fun xs ys us hr hm => by
      obtain ⟨h1, h2⟩ := mapO_get hm
      exact ⟨h1, fun i hi => fz_rep hs d _ _ _ (hr i (by omega)) (h2 i (by omega) hi)⟩
    have plain : x.noLive = true → y = x → Rep (frozenM c) [] y v := fun h1 h2 => by
      subst h2
      exact Rep.mono (frozenM_le hs) (hx.noLive h1 []) (Ents.le_refl _)
    simp only [fz] at h
    cases x <;> simp only at h
    case bool => cases h; exact plain rfl rfl
    case int => cases h; exact plain rfl rfl
    case str => cases h; exact plain rfl rfl
    case nilp => cases h; exact plain rfl rfl
    case fptr => cases h; exact plain rfl rfl
    case nils => cases h; exact plain rfl rfl
    case es => cases h; exact plain rfl rfl
    case eu => cases h; exact plain rfl rfl
    case fs => cases h; exact plain rfl rfl
    case nilm => cases h; exact plain rfl rfl
    case nilf => cases h; exact plain rfl rfl
    case nili => cases h; exact plain rfl rfl
    case any => cases h; exact plain rfl rfl
    case mp => cases h
    case yl => cases h
    case ifc t y' =>
      obtain ⟨z, hz, rfl⟩ := Option.map_eq_some_iff.1 h
      cases hx with
      | ifc hx => exact .ifc (fz_rep hs d _ _ _ hx hz)
    case agg cs =>
      obtain ⟨z, hz, rfl⟩ := Option.map_eq_some_iff.1 h
      cases hx with
      | agg h1 r =>
        rename_i vs
        obtain ⟨q1, q2⟩ := hl cs z (fun i => vs.getD i undef) (fun i hi => by have := r i hi; simpa [Array.getD_eq_getD_getElem?, h1 ▸ hi] using this) hz
        exact .agg (by rw [q1, h1]) (fun i hi => by have := q2 i hi; have hi' : i < vs.size := (by omega); simpa [Array.getD_eq_getD_getElem?, hi'] using this)
    case tup cs =>
      obtain ⟨z, hz, rfl⟩ := Option.map_eq_some_iff.1 h
      cases hx with
      | tup h1 r =>
        rename_i vs
        obtain ⟨q1, q2⟩ := hl cs z (fun i => vs.getD i undef) (fun i hi => by have := r i hi; simpa [Array.getD_eq_getD_getElem?, h1 ▸ hi] using this) hz
        exact .tup (by rw [q1, h1]) (fun i hi => by have := q2 i hi; have hi' : i < vs.size := (by omega); simpa [Array.getD_eq_getD_getElem?, hi'] using this)
    case fn f first cap =>
      split at h
      case h_2 => cases h
      case h_1 a b ha hb =>
        cases h
        cases hx with
        | fn h1 h2 r1 r2 =>
          rename_i vf vc
          obtain ⟨q1, q2⟩ := hl first a (fun i => vf.getD i undef) (fun i hi => by have := r1 i hi; simpa [Array.getD_eq_getD_getElem?, h1 ▸ hi] using this) ha
          obtain ⟨p1, p2⟩ := hl cap b (fun i => vc.getD i undef) (fun i hi => by have := r2 i hi; simpa [Array.getD_eq_getD_getElem?, h2 ▸ hi] using this) hb
          exact .fn (by rw [q1, h1]) (by rw [p1, h2]) (fun i hi => by have := q2 i hi; have hi' : i < vf.size := (by omega); simpa [Array.getD_eq_getD_getElem?, hi'] using this)
            (fun i hi => by have := p2 i hi; have hi' : i < vc.size := (by omega); simpa [Array.getD_eq_getD_getElem?, hi'] using this)
    case sl id g off len sz =>
      split at h
      case h_2 => cases h
      case h_1 row g' hσ =>
        split at h
        case isFalse => cases h
        case isTrue hgg =>
          subst hgg
          obtain ⟨z, hz, rfl⟩ := Option.map_eq_some_iff.1 h
          obtain ⟨e, he, hg, h1, hv⟩ := rep_sl_inv hx
          obtain ⟨k1, k2, k3, cs, ty, k4, k5, k6, k7⟩ := hs.blk _ _ _ he hσ
          obtain ⟨cap, rfl, c1, c2, c3, c4⟩ := hv k1.symm
          have hlen : ((row.drop off).take (len * sz)).length = len * sz := by simp; omega
          obtain ⟨q1, q2⟩ := hl _ z (fun i => (cs[off + i]?).getD undef) (fun i hi => by
            rw [hlen] at hi
            have hlt : off + i < row.length := by omega
            obtain ⟨u, hu, hr, _⟩ := k7 _ _ (List.getElem?_eq_getElem hlt)
            simp only [List.getElem_take, List.getElem_drop, hu]
            exact hr) hz
          rw [hlen] at q1
          refine .fs c1 _ (fun i hi => ?_) q2
          rw [frozenM_in (List.mem_of_getElem? he)]
          have hlt : off + i < cs.size := by omega
          simp [World.cell?, k4, hlt]
    case ptr id g off =>
      split at h
      case h_2 => cases h
      case h_1 row g' hσ =>
        split at h
        case isFalse => cases h
        case isTrue hgg =>
          subst hgg
          obtain ⟨z, hz, rfl⟩ := Option.map_eq_some_iff.1 h
          obtain ⟨e, he, hg, h1, hv⟩ := rep_ptr_inv hx
          obtain ⟨k1, k2, k3, cs, ty, k4, k5, k6, k7⟩ := hs.blk _ _ _ he hσ
          have hv := hv k1.symm
          subst hv
          obtain ⟨q1, q2⟩ := hl _ z (fun i => (cs[i]?).getD undef) (fun i hi => by
            obtain ⟨u, hu, hr, _⟩ := k7 _ _ (List.getElem?_eq_getElem hi)
            simp only [hu]
            exact hr) hz
          have := Rep.fptr (M := frozenM c) (L := []) (row := z) (off := off) (b := e.b) (o := 0) (fun i => (cs[i]?).getD undef) (fun i hi => by
            rw [frozenM_in (List.mem_of_getElem? he)]
            have hlt : i < cs.size := by omega
            simp [World.cell?, k4, hlt]) q2
          simpa using this

/-- A function that is handed nothing live: what it answers, frozen. -/
def Pure (G : Prg) (k : FuncId) (args : List AV) (r : AV) : Prop := Fn G k args [] fun v σ => fz σ 8 v = some r

theorem Sim.none {c : Cfg} {σ : Heap} (hs : Sim c σ) : Sim ⟨c.M, [], c.w⟩ [] :=
  ⟨rfl, hs.prot, (fun e he => by cases he), (fun id e k he => by simp at he), (fun i j e e' k he => by simp at he)⟩

theorem Pure.call {G : Prg} {k : FuncId} {args : List AV} {r : AV} (h : Pure G k args r) (hn : noLiveL args = true) {σ : Heap} {K : AV → Heap → Prop} (hk : K r σ) : Fn G k args σ K := by
  intro c vs hG hs hv
  refine (h ⟨c.M, [], c.w⟩ vs hG hs.none (hv.noLive hn [])).mono ?_
  rintro e w' ⟨c', v, r', σ', rfl, q1, q2, rfl, q4, q5⟩
  have hfr := fz_rep q2 8 _ _ _ q4 q5
  have hfresh : ∀ e ∈ c'.L, c.w.heap.size ≤ e.b := fun e he => by
    rcases q1.fresh e he with ⟨e0, h0, _⟩ | h0
    · cases h0
    · exact h0
  have hMold : ∀ b o, b < c.w.heap.size → frozenM c' b o = c.M b o := fun b o hb => by
    unfold frozenM
    rw [if_neg (fun ⟨e, he, heq⟩ => by have := hfresh e he; omega)]
    cases Classical.em (c'.M b o = c.M b o) with
    | inl h => exact h
    | inr h =>
      rcases q1.mfresh b o h with ⟨e0, h0, _⟩ | h0
      · cases h0
      · exact absurd hb (Nat.not_lt.2 h0)
  have hkeep : ∀ b, b < c.w.heap.size → c'.w.heap[b]? = c.w.heap[b]? := fun b hb => q1.keep b hb (fun e he => by cases he)
  have hle : c.Le ⟨frozenM c', c.L, c'.w⟩ := by
    refine ⟨Mem.le_trans q1.mem (frozenM_le q2), Ents.le_refl _, q1.size, fun b hb _ => hkeep b hb, fun e he => .inl ⟨e, he, rfl⟩, fun b o hne => .inr ?_, q1.out, q1.os, q1.loops⟩
    rcases Nat.lt_or_ge b c.w.heap.size with h | h
    · exact absurd (hMold b o h) hne
    · exact h
  refine ⟨⟨frozenM c', c.L, c'.w⟩, v, r, σ, rfl, hle, ?_, rfl, hfr.noLive ?_ _, hk⟩
  · refine ⟨hs.len, fun b o u hM => frozenM_prot q2 b o u hM, fun e he => Nat.lt_of_lt_of_le (hs.lt e he) q1.size, fun id e k he hk => ?_, hs.inj⟩
    have hlt := hs.lt e (List.mem_of_getElem? he)
    exact BOk.mono hle (hkeep _ hlt) (fun o => hMold _ o hlt) (hs.blk id e k he hk)
  · exact fz_noLive _ _ _ q5

end Go.Tl
