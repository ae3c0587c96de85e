/- More operations: structs and slices. -/
import Derived.Test.YtjcenhgfonhidaaTlC
import Derived.ArgAppend
import Derived.Laws.MakeOwn
namespace Go.Tl
open Go.RowKit

/-! ### struct and slice literals -/
theorem fill_ok {M : Mem} {L : List Ent} (placeA : Nat → Option (Nat × Nat)) (placeC : Nat → Option (Nat × Nat)) (hp : ∀ i x, placeA i = some x → placeC i = some x) :
    ∀ (pa : List (Nat × AV)) (pc : List (Nat × Value)) (row row' : List AV) (vs : Array Value), pa.length = pc.length →
      (∀ (i : Nat) (x : Nat × AV) (y : Nat × Value), pa[i]? = some x → pc[i]? = some y → x.1 = y.1 ∧ Rep M L x.2 y.2) →
      RepL M L row vs → (∀ v ∈ vs, oneCell v) → fillA placeA row pa = some row' → ∃ vs', Instr.fill placeC vs pc = some vs' ∧ RepL M L row' vs' ∧ (∀ v ∈ vs', oneCell v) ∧ row'.length = row.length
  | [], [], row, row', vs, _, _, hr, h1, h => by
    simp [fillA] at h; subst h; exact ⟨vs, rfl, hr, h1, rfl⟩
  | [], _ :: _, _, _, _, hl, _, _, _, _ => by simp at hl
  | _ :: _, [], _, _, _, hl, _, _, _, _ => by simp at hl
  | (i, x) :: pa, (j, v) :: pc, row, row', vs, hl, hrep, hr, h1, h => by
    obtain ⟨hij, hx⟩ := hrep 0 (i, x) (j, v) rfl rfl
    simp only at hij hx
    subst hij
    simp only [fillA] at h
    split at h
    case h_1 => cases h
    case h_2 off size hpl =>
      split at h
      case isFalse => cases h
      case isTrue hc =>
        obtain ⟨hc1, hc2, hc3⟩ := hc
        have hxa : x ≠ .any := fun h => by subst h; simp [AV.cells, AV.one] at hc3
        have hcc := hx.cells hxa
        have hone := all_one hcc hc3
        have hsz : v.cells.size = size := by rw [← hcc.1, hc1]
        have hvs : (v.cells.zipIdx.foldl (fun cs (y : Value × Nat) => cs.setIfInBounds (off + y.2) y.1) vs).toList = vs.toList.take off ++ v.cells.toList ++ vs.toList.drop (off + v.cells.toList.length) := by
          have := foldl_set v.cells.toList off 0 vs (by simp [← hr.1]; omega)
          rw [← Array.foldl_toList, Array.toList_zipIdx]
          simpa using this
        have hk := splice_rep (c := ⟨M, L, default⟩) (row := row) (cs := x.cells) (vs := vs) (us := v.cells) (off := off) (by omega) (by rw [hr.1]; exact Nat.le_refl _)
          (fun i x hx => by obtain ⟨u, hu, hh⟩ := hr.get hx; exact ⟨u, hu, hh, h1 u (Array.mem_of_getElem? hu)⟩) hcc hone
        have hrow : RepL M L (splice row off x.cells) (v.cells.zipIdx.foldl (fun cs (y : Value × Nat) => cs.setIfInBounds (off + y.2) y.1) vs) := by
          refine ⟨?_, fun i y u hy hu => ?_⟩
          · rw [splice_length _ _ _ (by omega), ← Array.length_toList, hvs]; simp [hr.1, hsz]; have := hr.1; omega
          · obtain ⟨u', hu', h2, _⟩ := hk i y hy
            rw [← Array.getElem?_toList, hvs] at hu
            simp only [List.getElem?_toArray] at hu'
            rw [hu'] at hu; cases hu; exact h2
        have hone' : ∀ u ∈ (v.cells.zipIdx.foldl (fun cs (y : Value × Nat) => cs.setIfInBounds (off + y.2) y.1) vs), oneCell u := fun u hu => by
          rw [← Array.mem_toList_iff, hvs] at hu
          simp only [List.mem_append] at hu
          rcases hu with (hu | hu) | hu
          · exact h1 u (by simpa using List.mem_of_mem_take hu)
          · exact hone u (by simpa using hu)
          · exact h1 u (by simpa using List.mem_of_mem_drop hu)
        obtain ⟨vs', h4, h5, h6, h7⟩ := fill_ok placeA placeC hp pa pc _ row' _ (by simpa using hl) (fun k => hrep (k + 1)) hrow hone' h
        refine ⟨vs', ?_, h5, h6, by rw [h7, splice_length _ _ _ (by omega)]⟩
        simp only [Instr.fill, hp _ _ hpl]
        have hvl := hr.1
        have hcond : ¬(v.cells.size ≠ size ∨ off + v.cells.size > vs.size) := by
          rw [hsz]
          simp
          omega
        rw [if_neg (by simpa using hcond)]
        exact h4

def structPlace (fs : List (Nat × Nat)) (i : Nat) : Option (Nat × Nat) := fs[i]?

def buildA (r : TyRow) (parts : List (Nat × AV)) : Option AV :=
  match r.knd with
  | .struct fs => (fillA (fun i => fs[i]?) r.zero parts).map .agg
  | .array _ esz => (fillA (fun i => some (i * esz, esz)) r.zero parts).map .agg
  | _ => none

theorem sizeB_spec {P : Program} {t n : Nat} (h : sizeB P t n = true) : ∃ i, P.info? t = some i ∧ i.size = n := by
  unfold sizeB at h
  split at h
  · rename_i i hi; exact ⟨i, hi, by simpa using h⟩
  · cases h

theorem struct_places {P : Program} : ∀ (fields : List Field) (fs : List (Nat × Nat)), fields.length = fs.length → ((fields.zip fs).all fun (f, x) => f.offset == x.1 && sizeB P f.type x.2 && x.2 != 0) = true →
    fields.mapM (fun f => (P.info? f.type).map fun i => (f.offset, i.size)) = some fs
  | [], [], _, _ => rfl
  | [], _ :: _, h, _ => by simp at h
  | _ :: _, [], h, _ => by simp at h
  | f :: fields, x :: fs, hl, h => by
    simp only [List.zip_cons_cons, List.all_cons, Bool.and_eq_true, beq_iff_eq] at h
    obtain ⟨⟨⟨h1, h2⟩, _⟩, h4⟩ := h
    obtain ⟨i, hi, hs⟩ := sizeB_spec h2
    have ih := struct_places fields fs (by simpa using hl) h4
    simp [List.mapM_cons, hi, ih, h1, hs]

theorem build_ok {G : Prg} {c : Cfg} {t : TypeId} {r : TyRow} (ht : G.row t = some r) {pa : List (Nat × AV)} {pc : Array (Nat × Value)} (hl : pa.length = pc.toList.length)
    (hrep : ∀ (i : Nat) (x : Nat × AV) (y : Nat × Value), pa[i]? = some x → pc.toList[i]? = some y → x.1 = y.1 ∧ c.rep x.2 y.2) {x : AV} (h : buildA r pa = some x) :
    ∃ v, (Instr.build t pc).run G.P c.w = .ok v c.w ∧ c.rep x v := by
  obtain ⟨i, d, hi, hd, hs, hb, hzl, ⟨z, hz, hz1, hz2, hz3, hz4⟩, hk⟩ := row_info ht
  unfold buildA at h
  split at h
  case h_1 fs hfs =>
    rw [hfs] at hk
    cases d with
    | struct fields =>
      simp only [kndB, Bool.and_eq_true, beq_iff_eq] at hk
      obtain ⟨row', hrow, rfl⟩ := Option.map_eq_some_iff.1 h
      have hpl := struct_places fields.toList fs (by simpa using hk.1) hk.2
      obtain ⟨vs', h4, h5, h6, _⟩ := fill_ok (M := c.M) (L := c.L) (fun i => fs[i]?) (fs.toArray[·]?) (fun i x h => by simpa using h) pa pc.toList r.zero row' z.cells hl hrep (hz2 _ _) hz3 hrow
      refine ⟨.agg vs', run_build c.w t pc vs' ?_, repL_agg.2 h5⟩
      simp only [Program.built, hi, hd, hz, hpl]; exact h4
    | _ => simp [kndB] at hk
  case h_2 len esz hfs =>
    rw [hfs] at hk
    cases d with
    | array n e =>
      simp only [kndB, Bool.and_eq_true, beq_iff_eq] at hk
      obtain ⟨row', hrow, rfl⟩ := Option.map_eq_some_iff.1 h
      obtain ⟨ie, hie, hes⟩ := sizeB_spec hk.2
      obtain ⟨vs', h4, h5, h6, _⟩ := fill_ok (M := c.M) (L := c.L) (fun i => some (i * esz, esz)) (fun i => some (i * ie.size, ie.size)) (fun i x h => by rw [hes]; exact h) pa pc.toList r.zero row' z.cells hl hrep (hz2 _ _) hz3 hrow
      refine ⟨.agg vs', run_build c.w t pc vs' ?_, repL_agg.2 h5⟩
      simp only [Program.built, hi, hd, hz, hie]; exact h4
    | _ => simp [kndB] at hk
  case h_3 => cases h

/-! ### buildSlice -/
def buildSliceA (esz : Nat) (zero : List AV) (len : Nat) (parts : List (Nat × AV)) (n : Nat) : Option (AV × List AV) :=
  if len * esz ≤ 4096 ∧ zero.length = esz then
    (fillA (fun i => some (i * esz, esz)) ((List.range (len * esz)).map fun i => zero.getD (i % esz) .any) parts).map fun row => (.sl n 0 0 len esz, row)
  else none

theorem slice_row {G : Prg} {t : TypeId} {r : TyRow} (ht : G.row t = some r) {e esz eb : Nat} (hk : r.knd = .slice e esz eb) : G.P.underlying t = some (.slice e) ∧ ∃ ie, G.P.info? e = some ie ∧ ie.size = esz ∧ ie.bytes = eb := by
  obtain ⟨i, d, hi, hd, _, _, _, _, h⟩ := row_info ht
  rw [hk] at h
  cases d with
  | slice e' =>
    simp only [kndB, Bool.and_eq_true, beq_iff_eq] at h
    obtain ⟨rfl, h2⟩ := h
    split at h2
    · rename_i ie hie
      simp only [Bool.and_eq_true, beq_iff_eq] at h2
      exact ⟨hd, ie, hie, h2.1, h2.2⟩
    · cases h2
  | _ => simp [kndB] at h

theorem buildSlice_ok1 {G : Prg} {c : Cfg} {σ : Heap} (hs : Sim c σ) {t e esz eb : Nat} {r re : TyRow} (ht : G.row t = some r) (hk : r.knd = .slice e esz eb) (he : G.row e = some re) {len : Nat} {pa : List (Nat × AV)} {pc : Array (Nat × Value)}
    (hl : pa.length = pc.toList.length) (hrep : ∀ (i : Nat) (x : Nat × AV) (y : Nat × Value), pa[i]? = some x → pc.toList[i]? = some y → x.1 = y.1 ∧ c.rep x.2 y.2) {x : AV} {row : List AV}
    (h : buildSliceA esz re.zero len pa σ.length = some (x, row)) :
    ∃ c' v, (Instr.buildSlice t len pc).run G.P c.w = .ok v c'.w ∧ c.Le c' ∧ Sim c' (σ ++ [.cells row 0]) ∧ c'.rep x v ∧ x = (Fk.sl len esz).ref σ.length ∧ Fresh1 c c' row (.sl len esz) v := by
  obtain ⟨hu, ie, hie, hes, heb⟩ := slice_row ht hk
  obtain ⟨i2, d2, hi2, hd2, hs2, _, hzl, ⟨z, hz, hz1, hz2, hz3, hz4⟩, _⟩ := row_info he
  rw [hie] at hi2; cases hi2
  unfold buildSliceA at h
  split at h
  case isFalse => cases h
  case isTrue hc =>
    obtain ⟨hc1, hc2⟩ := hc
    obtain ⟨row', hrow, hx⟩ := Option.map_eq_some_iff.1 h
    simp only [Prod.mk.injEq] at hx
    obtain ⟨rfl, rfl⟩ := hx
    have hzs : z.cells.size = esz := by rw [hz1, hc2]
    have h0 : RepL c.M c.L ((List.range (len * esz)).map fun i => re.zero.getD (i % esz) .any) ((Array.range (len * esz)).map (fun i => z.cells[i % z.cells.size]!)) := by
      refine ⟨by simp, fun i x v hx hv => ?_⟩
      have hi : i < len * esz := by have := (List.getElem?_eq_some_iff.1 hx).1; simpa using this
      have hpos : 0 < esz := Nat.pos_of_ne_zero (fun h => by simp [h] at hi)
      have hm : i % esz < esz := Nat.mod_lt _ hpos
      simp [hi, hzs] at hx hv
      have h3 : i % esz < z.cells.size := by omega
      rw [getElem!_pos z.cells _ h3] at hv
      rw [List.getElem?_eq_getElem (by omega : i % esz < re.zero.length)] at hx
      simp at hx
      subst hv; subst hx
      exact (hz2 c.M c.L).2 (i % esz) _ _ (List.getElem?_eq_getElem (by omega)) (Array.getElem?_eq_getElem h3)
    have h1 : ∀ v ∈ ((Array.range (len * esz)).map (fun i => z.cells[i % z.cells.size]!)), oneCell v := fun v hv => by
      obtain ⟨i, hi, rfl⟩ := Array.mem_map.1 hv
      have hi' : i < len * esz := by simpa using hi
      have hpos : 0 < esz := Nat.pos_of_ne_zero (fun h => by simp [h] at hi')
      have hm : i % esz < esz := Nat.mod_lt _ hpos
      rw [hzs, getElem!_pos z.cells _ (by omega)]
      exact hz3 _ (Array.getElem_mem _)
    obtain ⟨vs', h4, h5, h6, h7⟩ := fill_ok (M := c.M) (L := c.L) (fun i => some (i * esz, esz)) (fun i => some (i * esz, esz)) (fun i x h => h) pa pc.toList _ row' _ hl hrep h0 h1 hrow
    have hl5 : row'.length ≤ vs'.size := by rw [h5.1]; exact Nat.le_refl _
    obtain ⟨hn, hle, hsim, hL⟩ := newRow_ok1 (P := G.P) hs e (row := row') (vs := vs') hl5 (repl_get h5 h6)
    have hrl : row'.length = len * esz := by rw [h7]; simp
    refine ⟨_, .slice (some ⟨c.w.heap.size, 0, none⟩) len len, ?_, hle, hsim, .sl hL (Nat.le_refl _) trivial (fun _ => ⟨len, rfl, Nat.le_refl _, by simp [hrl], by simp [hrl], by simp [← h5.1, hrl]⟩), rfl,
      vs', e, rfl, hl5, repl_get h5 h6, fun M L id hid => .sl hid (Nat.le_refl _) trivial (fun _ => ⟨len, rfl, Nat.le_refl _, by simp [hrl], by simp [hrl], by simp [← h5.1, hrl]⟩)⟩
    have hzrun : ∀ w, (zeroValue e).run G.P w = .ok z w := fun w => by simp [zeroValue, typeInfo, hie, hz]
    have hsrun : ∀ w, (sizeOf e).run G.P w = .ok esz w := fun w => by simp [sizeOf, typeInfo, hie, hes]
    have hbig : ¬ (16777216 < len * esz) := by omega
    by_cases hz0 : len * esz = 0
    · have e0 : (Array.range (len * esz)).map (fun i => z.cells[i % z.cells.size]!) = #[] := by rw [hz0]; exact Array.eq_empty_of_size_eq_zero (by simp)
      rw [e0] at h4
      have e1 : ∀ f : Nat → Value, (Array.range 0).map f = #[] := fun f => Array.eq_empty_of_size_eq_zero (by simp)
      simp [Instr.buildSlice, run_underlying hu, hsrun, hz0, e1, h4, hn]
    · simp [Instr.buildSlice, run_underlying hu, hsrun, hz0, hbig, hzrun, h4, hn]

theorem buildSlice_ok {G : Prg} {c : Cfg} {σ : Heap} (hs : Sim c σ) {t e esz eb : Nat} {r re : TyRow} (ht : G.row t = some r) (hk : r.knd = .slice e esz eb) (he : G.row e = some re) {len : Nat} {pa : List (Nat × AV)} {pc : Array (Nat × Value)}
    (hl : pa.length = pc.toList.length) (hrep : ∀ (i : Nat) (x : Nat × AV) (y : Nat × Value), pa[i]? = some x → pc.toList[i]? = some y → x.1 = y.1 ∧ c.rep x.2 y.2) {x : AV} {row : List AV}
    (h : buildSliceA esz re.zero len pa σ.length = some (x, row)) :
    ∃ c' v, (Instr.buildSlice t len pc).run G.P c.w = .ok v c'.w ∧ c.Le c' ∧ Sim c' (σ ++ [.cells row 0]) ∧ c'.rep x v := by
  obtain ⟨c', v, h1, h2, h3, h4, _⟩ := buildSlice_ok1 hs ht hk he hl hrep h
  exact ⟨c', v, h1, h2, h3, h4⟩

/-! ### Reading slices -/
def rdSl (σ : Heap) (sz : Nat) : AV → Option (List AV × Nat)
  | .nils => some ([], 0)
  | .es => some ([], 0)
  | .eu => some ([], 0)
  | .fs row len => if row.length = len * sz then some (row, len) else none
  | .sl id g off len sz' => match σ[id]? with
    | some (.cells row g') => if g = g' ∧ sz = sz' then some ((row.drop off).take (len * sz), len) else none
    | _ => none
  | _ => none

theorem rdSl_rep {c : Cfg} {σ : Heap} (hs : Sim c σ) {sz : Nat} {x : AV} {v : Value} (hx : c.rep x v) {row : List AV} {n : Nat} (h : rdSl σ sz x = some (row, n)) :
    row.length = n * sz ∧ ∃ (a : Option Addr) (cap : Nat), v = .slice a n cap ∧ n ≤ cap ∧ (a = none → n = 0 ∧ cap = 0) ∧ ∀ b, a = some b → ∃ us : List Value, us.length = row.length ∧ RepL c.M c.L row us.toArray ∧ ∀ j u, us[j]? = some u → c.w.cell? (b.add j) = some u := by
  unfold rdSl at h
  split at h
  case h_1 => cases h; cases hx; exact ⟨by simp, none, 0, rfl, Nat.le_refl _, fun _ => ⟨rfl, rfl⟩, fun b hb => by cases hb⟩
  case h_2 => cases h; cases hx; exact ⟨by simp, _, 0, rfl, Nat.le_refl _, (fun h => by cases h), fun b _ => ⟨[], rfl, repL_nil, fun j u hj => by simp at hj⟩⟩
  case h_3 => cases h; cases hx; exact ⟨by simp, _, _, rfl, Nat.zero_le _, (fun h => by cases h), fun b _ => ⟨[], rfl, repL_nil, fun j u hj => by simp at hj⟩⟩
  case h_4 row' len =>
    split at h
    case isFalse => cases h
    case isTrue hl =>
      cases h
      obtain ⟨b, o, cap, us, rfl, hle, hm, hr⟩ := rep_fs_inv hx
      refine ⟨hl, some ⟨b, o, none⟩, cap, rfl, hle, (fun h => by cases h), fun b' hb => ?_⟩
      cases hb
      refine ⟨(List.range row.length).map us, by simp, ⟨by simp, fun i x u hx hu => ?_⟩, fun j u hu => ?_⟩
      · have hi := (List.getElem?_eq_some_iff.1 hx).1
        simp [hi] at hu hx
        subst hu; subst hx
        exact Rep.mono (fun _ _ _ h => h) (hr _ hi) (Ents.nil_le _)
      · have hi : j < row.length := by have := (List.getElem?_eq_some_iff.1 hu).1; simpa using this
        simp [hi] at hu
        subst hu
        rw [add_none]; exact hs.prot _ _ _ (hm j hi)
  case h_5 id g off len sz' =>
    obtain ⟨e, he, hg, h1, hv⟩ := rep_sl_inv hx
    split at h
    case h_2 => cases h
    case h_1 row' g' hσ =>
      split at h
      case isFalse => cases h
      case isTrue hgg =>
        obtain ⟨rfl, rfl⟩ := hgg
        cases h
        obtain ⟨k1, k2, k3, cs, ty, k4, k5, k6, k7⟩ := hs.blk _ _ _ he hσ
        obtain ⟨cap, rfl, c1, c2, c3, c4⟩ := hv k1.symm
        have hlen : ((row'.drop off).take (n * sz)).length = n * sz := by simp; omega
        refine ⟨hlen, some ⟨e.b, off, none⟩, cap, rfl, c1, (fun h => by cases h), fun b' hb => ?_⟩
        cases hb
        have hget : ∀ i, i < n * sz → ∃ x u, row'[off + i]? = some x ∧ cs[off + i]? = some u ∧ c.rep x u := fun i hi => by
          have hlt : off + i < row'.length := by omega
          obtain ⟨u, hu, hr, _⟩ := k7 _ _ (List.getElem?_eq_getElem hlt)
          exact ⟨_, u, List.getElem?_eq_getElem hlt, hu, hr⟩
        refine ⟨(List.range (n * sz)).map fun i => (cs[off + i]?).getD undef, by rw [hlen]; simp, ⟨by rw [hlen]; simp, fun i x u hx hu => ?_⟩, fun j u hu => ?_⟩
        · have hi : i < n * sz := by have := (List.getElem?_eq_some_iff.1 hx).1; omega
          obtain ⟨x', u', hx', hu', hr⟩ := hget i hi
          simp [hi] at hu
          rw [List.getElem?_take_of_lt hi, List.getElem?_drop, hx'] at hx
          cases hx; subst hu
          rw [hu']; exact hr
        · have hi : j < n * sz := by have := (List.getElem?_eq_some_iff.1 hu).1; simpa using this
          obtain ⟨x', u', hx', hu', hr⟩ := hget j hi
          simp [hi] at hu
          subst hu
          rw [add_none]; simp [World.cell?, k4, hu']
  case h_6 => cases h

/-! ### Places -/
def fieldAddrA (r : TyRow) (p : AV) (f : Nat) : Option AV :=
  match r.knd with
  | .struct fs => match fs[f]?, p with
    | some (o, _), .ptr id g off => some (.ptr id g (off + o))
    | some (o, _), .fptr row off => some (.fptr row (off + o))
    | _, _ => none
  | _ => none

theorem Addr.add_eq (b o n : Nat) : (⟨b, o, none⟩ : Addr).add n = ⟨b, o + n, none⟩ := add_none b o n

theorem rep_ptr_add {c : Cfg} {id g off n : Nat} {v : Value} (h : c.rep (.ptr id g off) v) (b : Nat) (o : Nat) (hv : v = .pointer (some ⟨b, o, none⟩)) : c.rep (.ptr id g (off + n)) (.pointer (some ⟨b, o + n, none⟩)) := by
  obtain ⟨e, he, hg, h1, hv'⟩ := rep_ptr_inv h
  refine .ptr he hg trivial (fun hh => ?_)
  have := hv' hh
  subst hv
  simp at this
  rw [this.1, this.2]

theorem fieldPlace_run {P : Program} (w : World) (a : Addr) (f : Field) {n : Nat} (h : sizeB P f.type n = true) (h0 : n ≠ 0) : (fieldPlace a f).run P w = .ok (a.add f.offset) w := by
  obtain ⟨i, hi, hs⟩ := sizeB_spec h
  simp [fieldPlace, sizeOf, typeInfo, hi, hs, h0]

theorem struct_row {G : Prg} {t : TypeId} {r : TyRow} (ht : G.row t = some r) {fs : List (Nat × Nat)} (hk : r.knd = .struct fs) {f : Nat} {o n : Nat} (hf : fs[f]? = some (o, n)) :
    ∃ fields fl, G.P.underlying t = some (.struct fields) ∧ fields[f]? = some fl ∧ fl.offset = o ∧ sizeB G.P fl.type n = true ∧ n ≠ 0 := by
  obtain ⟨i, d, hi, hd, _, _, _, _, h⟩ := row_info ht
  rw [hk] at h
  cases d with
  | struct fields =>
    simp only [kndB, Bool.and_eq_true, beq_iff_eq] at h
    have hlt : f < fields.size := by rw [h.1]; exact (List.getElem?_eq_some_iff.1 hf).1
    have := List.all_eq_true.1 h.2 (fields[f], (o, n)) (List.mem_of_getElem? (i := f) (by rw [List.getElem?_zip_eq_some]; exact ⟨by simp [hlt], hf⟩))
    simp only [Bool.and_eq_true, beq_iff_eq, bne_iff_ne, ne_eq] at this
    exact ⟨fields, fields[f], hd, Array.getElem?_eq_getElem hlt, this.1.1, this.1.2, this.2⟩
  | _ => simp [kndB] at h

theorem fieldAddr_ok {G : Prg} {c : Cfg} {σ : Heap} (hs : Sim c σ) {t : TypeId} {r : TyRow} (ht : G.row t = some r) {p : AV} {v : Value} (hp : c.rep p v) (hal : (rdRow σ p).isSome = true) {f : Nat} {x : AV} (h : fieldAddrA r p f = some x) :
    ∃ u, (Instr.fieldAt t v f).run G.P c.w = .ok u c.w ∧ c.rep x u := by
  unfold fieldAddrA at h
  split at h
  case h_2 => cases h
  case h_1 fs hfs =>
    split at h
    case h_1 o n id g off hf =>
      cases h
      obtain ⟨fields, fl, hd, hfl, ho, hsz, hn⟩ := struct_row ht hfs hf
      obtain ⟨⟨row, off'⟩, hrd⟩ := Option.isSome_iff_exists.1 hal
      obtain ⟨b, o', rfl, _⟩ := rd_rep hs hp hrd
      subst ho
      exact ⟨_, by simp [Instr.fieldAt, run_underlying hd, hfl, Instr.sureAddr, fieldPlace_run c.w _ fl hsz hn, add_none], rep_ptr_add hp b o' rfl⟩
    case h_2 o n row off hf =>
      cases h
      obtain ⟨fields, fl, hd, hfl, ho, hsz, hn⟩ := struct_row ht hfs hf
      obtain ⟨b, o', us, rfl, hm, hr⟩ := rep_fptr_inv hp
      subst ho
      refine ⟨.pointer (some ⟨b, o' + (off + fl.offset), none⟩), by simp [Instr.fieldAt, run_underlying hd, hfl, Instr.sureAddr, fieldPlace_run c.w _ fl hsz hn, add_none, Nat.add_assoc], .fptr us hm hr⟩
    case h_3 => cases h

def indexAddrA (r : TyRow) (σ : Heap) (x : AV) (i : Int) : Option AV :=
  match r.knd with
  | .slice _ esz _ => match x with
    | .sl id g off len sz => if 0 ≤ i ∧ i < len ∧ sz = esz ∧ (rdRow σ (.ptr id g off)).isSome = true then some (.ptr id g (off + i.toNat * esz)) else none
    | .fs row len => if 0 ≤ i ∧ i < len then some (.fptr row (i.toNat * esz)) else none
    | _ => none
  | .array len esz => if 0 ≤ i ∧ i < len ∧ (rdRow σ x).isSome = true then (match x with
    | .ptr id g off => some (.ptr id g (off + i.toNat * esz))
    | .fptr row off => some (.fptr row (off + i.toNat * esz))
    | _ => none) else none
  | _ => none

theorem array_row {G : Prg} {t : TypeId} {r : TyRow} (ht : G.row t = some r) {len esz : Nat} (hk : r.knd = .array len esz) : ∃ e ie, G.P.underlying t = some (.array len e) ∧ G.P.info? e = some ie ∧ ie.size = esz := by
  obtain ⟨i, d, hi, hd, _, _, _, _, h⟩ := row_info ht
  rw [hk] at h
  cases d with
  | array n e =>
    simp only [kndB, Bool.and_eq_true, beq_iff_eq] at h
    obtain ⟨rfl, h2⟩ := h
    obtain ⟨ie, hie, hes⟩ := sizeB_spec h2
    exact ⟨e, ie, hd, hie, hes⟩
  | _ => simp [kndB] at h

theorem indexAddr_ok {G : Prg} {c : Cfg} {σ : Heap} (hs : Sim c σ) {t : TypeId} {r : TyRow} (ht : G.row t = some r) {x : AV} {v : Value} (hx : c.rep x v) {k : IntKind} {i : Int} {y : AV} (h : indexAddrA r σ x i = some y) :
    ∃ u, (Instr.indexAt t v (.int k i)).run G.P c.w = .ok u c.w ∧ c.rep y u := by
  unfold indexAddrA at h
  split at h
  case h_1 e esz eb hk =>
    obtain ⟨hu, ie, hie, hes, heb⟩ := slice_row ht hk
    have hsz : ∀ w, (sizeOf e).run G.P w = .ok esz w := fun w => by simp [sizeOf, typeInfo, hie, hes]
    split at h
    case h_1 id g off len sz =>
      split at h
      case isFalse => cases h
      case isTrue hc =>
        obtain ⟨h0, h1, rfl, hal⟩ := hc
        cases h
        obtain ⟨e', he, hg, _, hv⟩ := rep_sl_inv hx
        have hgg : g = e'.g := by
          simp only [rdRow] at hal
          split at hal
          · rename_i row g' hσ
            split at hal
            · rename_i hh; subst hh; exact (hs.blk _ _ _ he hσ).1.symm
            · cases hal
          · cases hal
        obtain ⟨cap, rfl, _⟩ := hv hgg
        exact ⟨.pointer (some ⟨e'.b, off + i.toNat * sz, none⟩), by simp [Instr.indexAt, run_underlying hu, asIntOf, h0, h1, hsz, add_none], .ptr he hg trivial (fun _ => rfl)⟩
    case h_2 row len =>
      split at h
      case isFalse => cases h
      case isTrue hc =>
        obtain ⟨h0, h1⟩ := hc
        cases h
        obtain ⟨b, o, cap, us, rfl, hle, hm, hr⟩ := rep_fs_inv hx
        exact ⟨.pointer (some ⟨b, o + i.toNat * esz, none⟩), by simp [Instr.indexAt, run_underlying hu, asIntOf, h0, h1, hsz, add_none], .fptr us hm hr⟩
    case h_3 => cases h
  case h_2 len esz hk =>
    obtain ⟨e, ie, hu, hie, hes⟩ := array_row ht hk
    have hsz : ∀ w, (sizeOf e).run G.P w = .ok esz w := fun w => by simp [sizeOf, typeInfo, hie, hes]
    split at h
    case isFalse => cases h
    case isTrue hc =>
      obtain ⟨h0, h1, hal⟩ := hc
      obtain ⟨⟨row0, off0⟩, hrd⟩ := Option.isSome_iff_exists.1 hal
      split at h
      case h_1 id g off =>
        cases h
        obtain ⟨b, o', rfl, _⟩ := rd_rep hs hx hrd
        exact ⟨_, by simp [Instr.indexAt, run_underlying hu, asIntOf, h0, h1, hsz, add_none, Instr.sureAddr], rep_ptr_add hx b o' rfl⟩
      case h_2 row off =>
        cases h
        obtain ⟨b, o', us, rfl, hm, hr⟩ := rep_fptr_inv hx
        exact ⟨.pointer (some ⟨b, o' + (off + i.toNat * esz), none⟩), by simp [Instr.indexAt, run_underlying hu, asIntOf, h0, h1, hsz, add_none, Instr.sureAddr, Nat.add_assoc], .fptr us hm hr⟩
      case h_3 => cases h
  case h_3 => cases h

end Go.Tl
