/- What is handed to a law: its cells as abstract values, by their types (whole numbers, bools, strings, structs, slices, arrays, one in another). -/
import Derived.Test.YtjcenhgfonhidaaTlT
import Derived.Deep.Slices
namespace Go.Tl
open Go.RowKit Go.Deep Go.ChangeShapes Go.WideShapes Go.ChangeAt

/-- What a handed-over value's cells look like. -/
def Shape (P : Program) : Nat → TypeId → List AV → Prop
  | 0, _, _ => False
  | d + 1, t, cs => match P.underlying t with
    | some (.int k) => ∃ n, cs = [.int k n] ∧ (Lit.int k n).wf = true
    | some .bool => ∃ b, cs = [.bool b]
    | some .string => ∃ s : ByteArray, cs = [.str s] ∧ s.size ≤ maxLen
    | some (.slice e) => cs = [.nils] ∨ cs = [.eu] ∨ ∃ row len, cs = [.fs row len] ∧ 0 < len ∧ len ≤ maxLen ∧ row.length = len * P.cellsOf e ∧ ∀ i, i < len → Shape P d e ((row.drop (i * P.cellsOf e)).take (P.cellsOf e))
    | some (.struct fs) => cs.length = P.cellsOf t ∧ ∀ f ∈ fs.toList, Shape P d f.type ((cs.drop f.offset).take (P.cellsOf f.type))
    | some (.array n e) => cs.length = P.cellsOf t ∧ ∀ i, i < n → Shape P d e ((cs.drop (i * P.cellsOf e)).take (P.cellsOf e))
    | _ => False

def layB (P : Program) : List Field → Nat → Nat → Bool
  | [], o, n => o == n
  | f :: fs, o, n => f.offset == o && layB P fs (o + P.cellsOf f.type) n

/-- The types that are taken. -/
def plainT (P : Program) : Nat → TypeId → Bool
  | 0, _ => false
  | d + 1, t => match P.underlying t with
    | some (.int _) | some .bool | some .string => true
    | some (.slice e) => decide (0 < P.cellsOf e) && plainT P d e
    | some (.struct fs) => layB P fs.toList 0 (P.cellsOf t) && fs.toList.all (fun f => plainT P d f.type)
    | some (.array n e) => n * P.cellsOf e == P.cellsOf t && plainT P d e
    | _ => false

theorem repL_list {M : Mem} {L : List Ent} {xs : List AV} {cs : List Value} : RepL M L xs cs.toArray ↔ xs.length = cs.length ∧ ∀ (i : Nat) (x : AV) (v : Value), xs[i]? = some x → cs[i]? = some v → Rep M L x v := by
  unfold RepL; simp

/-- Pieces laid one behind the other. -/
theorem rows_join {p : Nat → List AV → Prop} {sz : Nat} : ∀ (n : Nat), (∀ i, i < n → ∃ ys, ys.length = sz ∧ p i ys) → ∃ row : List AV, row.length = n * sz ∧ ∀ i, i < n → p i ((row.drop (i * sz)).take sz)
  | 0, _ => ⟨[], by simp, fun i h => absurd h (Nat.not_lt_zero i)⟩
  | n + 1, h => by
    obtain ⟨row, hl, hr⟩ := rows_join n (fun i hi => h i (by omega))
    obtain ⟨ys, hy, hp⟩ := h n (by omega)
    refine ⟨row ++ ys, by simp [hl, hy, Nat.succ_mul], fun i hi => ?_⟩
    by_cases hin : i < n
    · have h1 : i * sz + sz ≤ n * sz := by rw [← Nat.succ_mul]; exact Nat.mul_le_mul_right _ hin
      rw [List.drop_append_of_le_length (by omega), List.take_append_of_le_length (by rw [List.length_drop]; omega)]
      exact hr i hin
    · obtain rfl : i = n := by omega
      rw [← hl, List.drop_left, ← hy, List.take_length]
      exact hp

theorem lay_join {P : Program} {M : Mem} {d : Nat} {cs : List Value} {n : Nat} (hn : cs.length = n) : ∀ (fs : List Field) (o : Nat), o ≤ n → layB P fs o n = true →
    (∀ f ∈ fs, ∃ ys, RepL M [] ys ((cs.drop f.offset).take (P.cellsOf f.type)).toArray ∧ Shape P d f.type ys) →
    ∃ xs : List AV, RepL M [] xs (cs.drop o).toArray ∧ ∀ f ∈ fs, o ≤ f.offset ∧ Shape P d f.type ((xs.drop (f.offset - o)).take (P.cellsOf f.type))
  | [], o, ho, hl, _ => by
    simp only [layB, beq_iff_eq] at hl
    subst hl
    exact ⟨[], by rw [List.drop_of_length_le (by omega)]; exact repL_nil, fun f hf => by cases hf⟩
  | f :: fs, o, ho, hl, h => by
    simp only [layB, Bool.and_eq_true, beq_iff_eq] at hl
    obtain ⟨hfo, hl⟩ := hl
    have hle : o + P.cellsOf f.type ≤ n := by
      clear h
      revert hl
      generalize o + P.cellsOf f.type = o'
      intro hl
      induction fs generalizing o' with
      | nil => simp only [layB, beq_iff_eq] at hl; omega
      | cons g gs ih =>
        simp only [layB, Bool.and_eq_true, beq_iff_eq] at hl
        have := ih _ hl.2
        omega
    obtain ⟨xs, hx, hs⟩ := lay_join hn fs (o + P.cellsOf f.type) hle hl (fun g hg => h g (List.mem_cons_of_mem _ hg))
    obtain ⟨ys, hy, hsy⟩ := h f (List.mem_cons_self ..)
    rw [hfo] at hy
    have hyl : ys.length = P.cellsOf f.type := by
      have := (repL_list.1 hy).1
      rw [List.length_take, List.length_drop] at this
      omega
    refine ⟨ys ++ xs, ?_, fun g hg => ?_⟩
    · have e : cs.drop o = (cs.drop o).take (P.cellsOf f.type) ++ cs.drop (o + P.cellsOf f.type) := by rw [← List.drop_drop, List.take_append_drop]
      rw [e]
      have := RepL.append hy hx
      simpa using this
    · rcases List.mem_cons.1 hg with rfl | hg
      · refine ⟨by omega, ?_⟩
        rw [hfo, Nat.sub_self, List.drop_zero, ← hyl, List.take_left']
        · exact hsy
        · rfl
      · obtain ⟨h1, h2⟩ := hs g hg
        refine ⟨by omega, ?_⟩
        rw [List.drop_append, List.drop_of_length_le (by omega), List.nil_append, hyl, show g.offset - o - P.cellsOf f.type = g.offset - (o + P.cellsOf f.type) by omega]
        exact h2

theorem addr_add {a : Addr} (h : a.spot = none) (n : Nat) : a.add n = ⟨a.block, a.off + n, none⟩ := by
  obtain ⟨b, o, s⟩ := a
  simp only at h
  subst h
  unfold Addr.add
  split
  · rename_i h0; subst h0; rfl
  · rfl

section
variable {H : Type} {enc : TypeId × Value → H} {P : Program} {W : World}

theorem mapM_some {α β : Type} {f : α → Option β} : ∀ {l : List α} {r : List β}, l.mapM f = some r → ∀ a ∈ l, ∃ b, f a = some b
  | [], _, _, a, ha => by cases ha
  | x :: l, r, h, a, ha => by
    simp only [List.mapM_cons, Option.pure_def, Option.bind_eq_bind, Option.bind_eq_some_iff] at h
    obtain ⟨b, hb, bs, hbs, _⟩ := h
    rcases List.mem_cons.1 ha with rfl | ha
    · exact ⟨b, hb⟩
    · exact mapM_some hbs a ha

/-- What is handed over, by its type. -/
theorem open_shape {spare : Nat → Bool} {base : Nat} {held : Bool} : ∀ (d : Nat) (t : TypeId) (fuel : Nat) (cs : List Value) (x : DataW H × List MemPlace), plainT P d t = true → DataW.trod enc P W base spare held fuel t cs = some x →
    ∃ xs, RepL (wholeM W) [] xs cs.toArray ∧ Shape P d t xs
  | 0, _, _, _, _, hp, _ => by simp [plainT] at hp
  | d + 1, t, 0, cs, x, hp, h => by simp [DataW.trod] at h
  | d + 1, t, fuel + 1, cs, x, hp, h => by
    unfold plainT at hp
    split at hp
    · rename_i k ht
      obtain ⟨n, rfl, _, hw⟩ := DataW.trod_int ht h
      exact ⟨[.int k n], repL_one (.int _ _), by simp only [Shape, ht]; exact ⟨n, rfl, hw⟩⟩
    · rename_i ht
      unfold DataW.trod at h
      simp only [ht] at h
      split at h <;> (try (rename_i hh; cases hh)) <;> (try contradiction)
      exact ⟨[.bool _], repL_one (.bool _), by simp only [Shape, ht]; exact ⟨_, rfl⟩⟩
    · rename_i ht
      unfold DataW.trod at h
      simp only [ht] at h
      split at h <;> (try (rename_i hh; cases hh)) <;> (try contradiction)
      by_cases hs : (ByteArray.size ‹ByteArray›) ≤ maxLen
      · exact ⟨[.str _], repL_one (.str _), by simp only [Shape, ht]; exact ⟨_, rfl, hs⟩⟩
      · rw [if_neg hs] at h; cases h
    · rename_i e ht
      simp only [Bool.and_eq_true, decide_eq_true_eq] at hp
      rcases open_slice ht h with ⟨rfl, rfl⟩ | ⟨a, len, cap, m, n, D, Pl, rfl, hb, hl, hm, hmm, rfl, hx⟩
      · exact ⟨[.nils], repL_one .nils, by simp only [Shape, ht]; exact .inl trivial⟩
      · by_cases h0 : len = 0
        · subst h0
          exact ⟨[.eu], repL_one (.eu _ _), by simp only [Shape, ht]; exact .inr (.inl trivial)⟩
        · have hlm : len ≤ m := by subst hmm; split <;> omega
          have key : ∀ i, i < len → ∃ ys : List AV, ys.length = P.cellsOf e ∧ (∃ cs', W.cells? base (a.add (i * P.cellsOf e)) (P.cellsOf e) = some cs' ∧ RepL (wholeM W) [] ys cs'.toArray) ∧ Shape P d e ys := fun i hi => by
            obtain ⟨cs', h1, h2⟩ := hx i (by omega)
            obtain ⟨ys, hy, hs⟩ := open_shape d e n cs' _ hp.2 h2
            obtain ⟨_, hcl, _⟩ := World.cells?_some h1
            exact ⟨ys, by rw [(repL_list.1 hy).1, hcl], ⟨cs', h1, hy⟩, hs⟩
          obtain ⟨row, hrl, hrow⟩ := rows_join (p := fun i ys => (∃ cs', W.cells? base (a.add (i * P.cellsOf e)) (P.cellsOf e) = some cs' ∧ RepL (wholeM W) [] ys cs'.toArray) ∧ Shape P d e ys) (sz := P.cellsOf e) len key
          have hspot : a.spot = none := by
            obtain ⟨cs', h1, _⟩ := hx 0 (by omega)
            obtain ⟨_, hcl, hc⟩ := World.cells?_some h1
            have h2 := hc 0 hp.1
            have h3 : cs'[0]? = some (cs'[0]'(by omega)) := List.getElem?_eq_getElem (by omega)
            rw [h3] at h2
            unfold World.cell? at h2
            split at h2
            · split at h2
              · cases h2
              · rename_i hsp; cases hq : a.spot with
                | none => rfl
                | some s => simp [Addr.add, hq] at hsp
            · cases h2
          have hcell : ∀ j, j < row.length → ∃ u : Value, wholeM W a.block (a.off + j) = some u ∧ ∀ hj : j < row.length, Rep (wholeM W) [] row[j] u := fun j hj => by
            have hij : j / P.cellsOf e < len := by rw [Nat.div_lt_iff_lt_mul hp.1]; omega
            have hjm : j % P.cellsOf e < P.cellsOf e := Nat.mod_lt _ hp.1
            obtain ⟨⟨cs', h1, h2⟩, _⟩ := hrow (j / P.cellsOf e) hij
            obtain ⟨_, hcl, hc⟩ := World.cells?_some h1
            have hej : j / P.cellsOf e * P.cellsOf e + j % P.cellsOf e = j := Nat.div_add_mod' j _
            have hget : ((row.drop (j / P.cellsOf e * P.cellsOf e)).take (P.cellsOf e))[j % P.cellsOf e]? = some row[j] := by
              rw [List.getElem?_take_of_lt hjm, List.getElem?_drop, hej, List.getElem?_eq_getElem hj]
            have hg2 : cs'[j % P.cellsOf e]? = some (cs'[j % P.cellsOf e]'(by omega)) := List.getElem?_eq_getElem (by omega)
            refine ⟨cs'[j % P.cellsOf e]'(by omega), ?_, fun _ => (repL_list.1 h2).2 _ _ _ hget hg2⟩
            have := hc _ hjm
            rw [hg2] at this
            unfold wholeM
            rw [← this]
            rw [addr_add hspot, addr_add (by rfl)]
            simp only [Nat.add_assoc, hej]
          obtain ⟨us, hus⟩ := choose_lt (α := Value) hcell
          refine ⟨[.fs row len], repL_one ?_, ?_⟩
          · have : a = ⟨a.block, a.off, none⟩ := by rw [← hspot]
            rw [this]
            exact .fs hl us (fun i hi => (hus i hi).1) (fun i hi => (hus i hi).2 hi)
          · simp only [Shape, ht]
            exact .inr (.inr ⟨row, len, rfl, by omega, by omega, hrl, fun i hi => (hrow i hi).2⟩)
    · rename_i fs ht
      simp only [Bool.and_eq_true] at hp
      obtain ⟨xs, n, hn, rfl, hl, hlen, hf⟩ := DataW.trod_struct ht h
      obtain ⟨ys, hy, hs⟩ := lay_join (M := wholeM W) (d := d) hl fs.toList 0 (Nat.zero_le _) hp.1 (fun f hfm => by
        obtain ⟨i, hi, rfl⟩ := List.mem_iff_getElem.1 hfm
        have hi' : i < fs.size := by simpa using hi
        have hfi := hf i fs[i] (Array.getElem?_eq_getElem hi')
        have hpi := List.all_eq_true.1 hp.2 _ (List.getElem_mem hi)
        have hxi : i < xs.length := by rw [hlen]; exact hi'
        rw [List.getElem?_eq_getElem hxi] at hfi
        have := open_shape d _ n _ _ hpi hfi
        simpa using this)
      simp only [List.drop_zero] at hy
      refine ⟨ys, hy, ?_⟩
      simp only [Shape, ht]
      exact ⟨by rw [(repL_list.1 hy).1, hl], fun f hfm => by simpa using (hs f hfm).2⟩
    · rename_i n e ht
      simp only [Bool.and_eq_true, beq_iff_eq] at hp
      unfold DataW.trod at h
      simp only [ht] at h
      have hl : cs.length = P.cellsOf t := by
        by_cases hq : cs.length = P.cellsOf t
        · exact hq
        · rw [if_neg hq] at h; cases h
      rw [if_pos hl] at h
      obtain ⟨r, hr, _⟩ := Option.map_eq_some_iff.1 h
      have key : ∀ i, i < n → ∃ ys : List AV, ys.length = P.cellsOf e ∧ RepL (wholeM W) [] ys ((cs.drop (i * P.cellsOf e)).take (P.cellsOf e)).toArray ∧ Shape P d e ys := fun i hi => by
        obtain ⟨b, hb⟩ := mapM_some hr i (List.mem_range.2 hi)
        obtain ⟨ys, hy, hs⟩ := open_shape d e fuel _ _ hp.2 hb
        refine ⟨ys, ?_, hy, hs⟩
        rw [(repL_list.1 hy).1, List.length_take, List.length_drop, hl, ← hp.1]
        have : i * P.cellsOf e + P.cellsOf e ≤ n * P.cellsOf e := by rw [← Nat.succ_mul]; exact Nat.mul_le_mul_right _ hi
        omega
      obtain ⟨row, hrl, hrow⟩ := rows_join (p := fun i ys => RepL (wholeM W) [] ys ((cs.drop (i * P.cellsOf e)).take (P.cellsOf e)).toArray ∧ Shape P d e ys) n key
      refine ⟨row, repL_list.2 ⟨by rw [hrl, hl, hp.1], fun j y v hy hv => ?_⟩, ?_⟩
      · have hj : j < row.length := (List.getElem?_eq_some_iff.1 hy).1
        by_cases h0 : P.cellsOf e = 0
        · rw [h0, Nat.mul_zero] at hrl; omega
        · have hpos : 0 < P.cellsOf e := by omega
          have hij : j / P.cellsOf e < n := by rw [Nat.div_lt_iff_lt_mul hpos]; omega
          have hjm : j % P.cellsOf e < P.cellsOf e := Nat.mod_lt _ hpos
          have hej : j / P.cellsOf e * P.cellsOf e + j % P.cellsOf e = j := Nat.div_add_mod' j _
          refine (repL_list.1 (hrow _ hij).1).2 (j % P.cellsOf e) y v ?_ ?_
          · rw [List.getElem?_take_of_lt hjm, List.getElem?_drop, hej]; exact hy
          · rw [List.getElem?_take_of_lt hjm, List.getElem?_drop, hej]; exact hv
      · simp only [Shape, ht]
        exact ⟨by rw [hrl, hp.1], fun i hi => (hrow i hi).2⟩
    · cases hp

/-- .. of an argument. -/
def ArgShape (P : Program) (d : Nat) (t : TypeId) (x : AV) : Prop := match P.underlying t with
  | some (.struct _) | some (.array _ _) => ∃ cs, x = .agg cs ∧ Shape P d t cs
  | _ => Shape P d t [x]

theorem shape_one {d : Nat} {t : TypeId} {cs : List AV} (h : Shape P d t cs) (hn : ∀ fs, P.underlying t ≠ some (.struct fs)) (hm : ∀ n e, P.underlying t ≠ some (.array n e)) : ∃ x, cs = [x] := by
  cases d with
  | zero => exact h.elim
  | succ d =>
    unfold Shape at h
    split at h
    · obtain ⟨n, h, _⟩ := h; exact ⟨_, h⟩
    · obtain ⟨n, h⟩ := h; exact ⟨_, h⟩
    · obtain ⟨n, h, _⟩ := h; exact ⟨_, h⟩
    · rcases h with h | h | ⟨_, _, h, _⟩ <;> exact ⟨_, h⟩
    · rename_i fs ht; exact absurd ht (hn fs)
    · rename_i n e ht; exact absurd ht (hm n e)
    · exact h.elim

theorem open_arg {r : Reach} {b0 base : Nat} {spare : Nat → Bool} {held : Bool} {d : Nat} {t : TypeId} {v : Value} {x : DataW H} {ps : List MemPlace} (hv : Value.okWide P W r b0 t v) (h : DataW.Trod enc P W base spare held t v x ps)
    (hp : plainT P d t = true) : ∃ y, Rep (wholeM W) [] y v ∧ ArgShape P d t y := by
  obtain ⟨fuel, hf⟩ := h
  obtain ⟨xs, hx, hs⟩ := open_shape d t fuel _ _ hp hf
  unfold ArgShape
  unfold Value.okWide at hv
  split
  · rename_i fs ht
    rw [ht] at hv
    obtain ⟨cs, rfl, _⟩ := hv
    exact ⟨.agg xs, repL_agg.2 (by simpa [Value.cells] using hx), xs, rfl, hs⟩
  · rename_i n e ht
    rw [ht] at hv
    obtain ⟨cs, rfl, _⟩ := hv
    exact ⟨.agg xs, repL_agg.2 (by simpa [Value.cells] using hx), xs, rfl, hs⟩
  · rename_i h1 h2
    obtain ⟨y, rfl⟩ := shape_one hs h1 h2
    have hl := (repL_list.1 hx).1
    have hvc : v.cells = #[v] := by
      cases v <;> first | rfl | skip
      rename_i cs
      exfalso
      revert hv
      split
      · rename_i h; exact fun _ => h1 _ h
      · rename_i h; exact fun _ => h2 _ _ h
      · unfold Cell.okWide
        split <;> (try (rename_i hq _; cases hq)) <;> (try exact fun h => h)
        all_goals first | (rename_i hq; cases hq) | skip
        all_goals (unfold Cell.ok; split <;> first | exact fun h => h | (rename_i hq; cases hq) | (rename_i hq _; cases hq))
    rw [hvc] at hx
    exact ⟨y, (repL_list.1 hx).2 0 y v rfl rfl, hs⟩

def ArgsShape (P : Program) (d : Nat) : List TypeId → List AV → Prop
  | [], [] => True
  | t :: ts, x :: xs => ArgShape P d t x ∧ ArgsShape P d ts xs
  | _, _ => False

theorem open_args {r : Reach} {b0 : Nat} {base : Nat} {spare : Nat → Bool} {held : Bool} {d : Nat} : ∀ {ts : List TypeId} {vs : List Value} {ds : List (DataW H)} {ps : List MemPlace}, (∀ (j : Nat) t v, ts[j]? = some t → vs[j]? = some v → Value.okWide P W r b0 t v) →
    DataW.TrodAll enc P W base spare held ts vs ds ps → ts.all (plainT P d) = true → ∃ xs, RepL (wholeM W) [] xs vs.toArray ∧ ArgsShape P d ts xs
  | [], _, _, _, _, h, _ => by
    obtain ⟨rfl, rfl, rfl⟩ := trodAll_nil h
    exact ⟨[], repL_nil, trivial⟩
  | t :: ts, _, _, _, hv, h, hp => by
    obtain ⟨v, vs', d', ds', p, q, rfl, rfl, rfl, h1, h2⟩ := trodAll_cons h
    simp only [List.all_cons, Bool.and_eq_true] at hp
    obtain ⟨x, hx, hs⟩ := open_arg (hv 0 t v rfl rfl) h1 hp.1
    obtain ⟨xs, hxs, hss⟩ := open_args (fun j t' v' ht hv' => hv (j + 1) t' v' ht hv') h2 hp.2
    refine ⟨x :: xs, repL_list.2 ⟨by simp [(repL_list.1 hxs).1], fun i y u hy hu => ?_⟩, hs, hss⟩
    cases i with
    | zero => simp at hy hu; subst hy; subst hu; exact hx
    | succ i => exact (repL_list.1 hxs).2 i y u (by simpa using hy) (by simpa using hu)

theorem trodAll_len {base : Nat} {spare : Nat → Bool} {held : Bool} : ∀ {ts : List TypeId} {vs : List Value} {ds : List (DataW H)} {ps : List MemPlace}, DataW.TrodAll enc P W base spare held ts vs ds ps → ds.length = ts.length
  | [], _, _, _, h => by
    obtain ⟨rfl, rfl, rfl⟩ := trodAll_nil h
    rfl
  | t :: ts, _, _, _, h => by
    obtain ⟨v, vs', d', ds', p, q, rfl, rfl, rfl, h1, h2⟩ := trodAll_cons h
    simp [trodAll_len h2]

/-- A slice of whole numbers. -/
def IntsOf (k : IntKind) (x : AV) (xs : List Int) : Prop := (x = .nils ∧ xs = []) ∨ (x = .eu ∧ xs = []) ∨ (x = .fs (xs.map (.int k ·)) xs.length ∧ xs ≠ [])

theorem shape_ints {d : Nat} {t e : TypeId} {k : IntKind} {cs : List AV} (ht : P.underlying t = some (.slice e)) (he : P.underlying e = some (.int k)) (hc : P.cellsOf e = 1) (h : Shape P (d + 2) t cs) :
    ∃ x xs, cs = [x] ∧ IntsOf k x xs ∧ (∀ n ∈ xs, (Lit.int k n).wf = true) ∧ xs.length ≤ maxLen := by
  unfold Shape at h
  simp only [ht] at h
  rcases h with rfl | rfl | ⟨row, len, rfl, h0, hm, hl, hr⟩
  · exact ⟨_, [], rfl, .inl ⟨rfl, rfl⟩, fun n h => by (cases h), by simp⟩
  · exact ⟨_, [], rfl, .inr (.inl ⟨rfl, rfl⟩), fun n h => by (cases h), by simp⟩
  · rw [hc, Nat.mul_one] at hl
    have key : ∀ i (hi : i < row.length), ∃ n, row[i] = .int k n ∧ (Lit.int k n).wf = true := fun i hi => by
      have := hr i (by omega)
      unfold Shape at this
      simp only [he, hc, Nat.mul_one] at this
      obtain ⟨n, h1, h2⟩ := this
      refine ⟨n, ?_, h2⟩
      have h3 := congrArg (·[0]?) h1
      simp only [List.getElem?_take_of_lt (Nat.zero_lt_one), List.getElem?_drop, Nat.add_zero, List.getElem?_eq_getElem hi] at h3
      simpa using h3
    have : ∃ xs : List Int, row = xs.map (.int k ·) ∧ ∀ n ∈ xs, (Lit.int k n).wf = true := by
      clear hr hl hm h0
      induction row with
      | nil => exact ⟨[], rfl, fun n h => by cases h⟩
      | cons a row ih =>
        obtain ⟨xs, h1, h2⟩ := ih (fun i hi => key (i + 1) (by simpa using hi))
        obtain ⟨n, h3, h4⟩ := key 0 (by simp)
        refine ⟨n :: xs, by simp at h3; simp [h3, h1], fun m hm => ?_⟩
        rcases List.mem_cons.1 hm with rfl | hm
        · exact h4
        · exact h2 m hm
    obtain ⟨xs, rfl, hw⟩ := this
    simp only [List.length_map] at hl
    subst hl
    exact ⟨_, xs, rfl, .inr (.inr ⟨rfl, fun e => by subst e; simp at h0⟩), hw, hm⟩
end

end Go.Tl
