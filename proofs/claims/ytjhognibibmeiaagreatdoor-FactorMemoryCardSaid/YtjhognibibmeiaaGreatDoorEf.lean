/-
  THE EVALUATOR, sixth part: building, making, storing.
-/
import Derived.Test.YtjhognibibmeiaaGreatDoorEe
set_option linter.unusedVariables false
namespace Go.Proofs.YtjhognibibmeiaaGreatDoor
namespace E
open Go Go.RowKit

section
variable {G : Gh} {w : World}
theorem oneL_ok {l : LV} {x : Value} (h : oneL l = true) (hr : Rel G w l x) : x.oneCell' = true := by
  cases l with
  | v y => obtain rfl := rel_v hr; exact h
  | agg cs => cases h
  | tup cs => cases h
  | unk => cases h
  | rd es => have := rel_rd hr; cases this <;> rfl
  | sl id off len cap => obtain ⟨_, cp, rfl, _⟩ := rel_sl hr; rfl
  | ptr id i sub => obtain ⟨_, rfl⟩ := rel_ptr hr; rfl
  | eptr e sub => obtain ⟨b, o, val, rfl, _⟩ := rel_eptr hr; rfl
  | mp id => obtain ⟨_, rfl⟩ := rel_mp hr; rfl
  | clo f cs => obtain ⟨vs, rfl, _⟩ := rel_clo hr; rfl

theorem cells_of_one {x : Value} (h : x.oneCell' = true) : x.cells = #[x] := by
  cases x <;> first | rfl | cases h

theorem cellsK_ok {x : LV} {k : List LV → Prop} {xv : Value} (h : cellsK x k) (hr : Rel G w x xv) : ∃ cs, k cs ∧ Rels G w cs xv.cells.toList ∧ ∀ v ∈ xv.cells.toList, v.oneCell' = true := by
  unfold cellsK at h
  split at h
  · rename_i cs
    split at h
    · rename_i hall
      obtain ⟨vs, rfl, hrs⟩ := rel_agg hr
      refine ⟨cs, h, by simpa [Value.cells] using hrs, fun v hv => ?_⟩
      simp [Value.cells] at hv
      obtain ⟨i, hi, rfl⟩ := List.mem_iff_getElem.1 hv
      have hi' : i < cs.length := by rw [hrs.1]; exact hi
      exact oneL_ok (List.all_eq_true.1 hall _ (List.getElem_mem hi')) (hrs.2 i _ _ (List.getElem?_eq_getElem hi') (List.getElem?_eq_getElem hi))
    · exact h.elim
  · split at h
    · rename_i hone
      have h1 := oneL_ok hone hr
      refine ⟨_, h, ?_, ?_⟩
      · rw [cells_of_one h1]; exact rels_cons hr rels_nil
      · rw [cells_of_one h1]; simp [h1]
    · exact h.elim

theorem cleanK_ok {cs : List LV} {k : List LV → Prop} {vs : List Value} (h : cleanK cs k) (hr : Rels G w cs vs) : k cs ∧ RRels G.R w cs vs := by
  induction cs generalizing k vs with
  | nil => exact ⟨h, hr.1, fun i l x h1 => by simp at h1⟩
  | cons c cs ih =>
    obtain ⟨x, hx⟩ : ∃ x xs, vs = x :: xs := by
      cases vs with
      | nil => have := hr.1; simp at this
      | cons x xs => exact ⟨x, xs, rfl⟩
    obtain ⟨xs, rfl⟩ := hx
    have hr0 : Rel G w c x := hr.2 0 c x rfl rfl
    have hrs : Rels G w cs xs := ⟨by have := hr.1; simpa using this, fun i l y h1 h2 => hr.2 (i + 1) l y (by simpa using h1) (by simpa using h2)⟩
    have cons : ∀ (hc : RRel G.R w c x) (hk : cleanK cs fun s => k (c :: s)), k (c :: cs) ∧ RRels G.R w (c :: cs) (x :: xs) := by
      intro hc hk
      obtain ⟨h1, h2⟩ := ih hk hrs
      refine ⟨h1, by simp [h2.1], fun i l y h3 h4 => ?_⟩
      cases i with
      | zero => simp at h3 h4; subst h3 h4; exact hc
      | succ i => exact h2.2 i l y (by simpa using h3) (by simpa using h4)
    cases c with
    | v y => have e := rel_v hr0; subst e; exact cons (.v _) h
    | rd es => exact cons (rel_rd hr0) h
    | _ => exact h.elim

theorem rels_zero (z : List Value) : Rels G w (z.map .v) z := rels_v z

/-- Cells laid over cells, one by one. -/
theorem foldl_set (vs : List Value) : ∀ (k off : Nat) (cells : Array Value), off + k + vs.length ≤ cells.size →
    ((vs.zipIdx k).foldl (fun cs (x : Value × Nat) => cs.setIfInBounds (off + x.2) x.1) cells).toList = cells.toList.take (off + k) ++ vs ++ cells.toList.drop (off + k + vs.length) := by
  induction vs with
  | nil => intro k off cells h; simp
  | cons v vs ih =>
    intro k off cells h
    simp only [List.zipIdx_cons, List.foldl_cons]
    simp at h
    rw [ih (k + 1) off (cells.setIfInBounds (off + k) v) (by simp; omega)]
    have e := list_seg_step cells.toList (off + k) v vs (by simp; omega)
    simpa [Array.toList_setIfInBounds, Nat.add_assoc] using e

theorem foldl_set' (v : Value) (off : Nat) (cells : Array Value) (h : off + v.cells.size ≤ cells.size) :
    (v.cells.zipIdx.foldl (fun cs (c, j) => cs.setIfInBounds (off + j) c) cells).toList = cells.toList.take off ++ v.cells.toList ++ cells.toList.drop (off + v.cells.toList.length) := by
  have := foldl_set v.cells.toList 0 off cells (by simpa using h)
  rw [← Array.foldl_toList]
  simpa using this

theorem rels_splice {cs ps : List LV} {vs us : List Value} (h : Rels G w cs vs) (k : Rels G w ps us) (off : Nat) : Rels G w (cs.take off ++ ps ++ cs.drop (off + ps.length)) (vs.take off ++ us ++ vs.drop (off + us.length)) := by
  rw [← k.1]
  exact rels_append (rels_append (rels_take h off) k) (rels_drop h _)

/-- Parts side by side. -/
def PRels (G : Gh) (w : World) (ps : List (Nat × LV)) (qs : List (Nat × Value)) : Prop := ps.length = qs.length ∧ ∀ (i : Nat) p q, ps[i]? = some p → qs[i]? = some q → p.1 = q.1 ∧ Rel G w p.2 q.2

theorem prels_nil : PRels G w [] [] := ⟨rfl, by simp⟩
theorem prels_cons {i : Nat} {l : LV} {x : Value} {ps : List (Nat × LV)} {qs : List (Nat × Value)} (h : Rel G w l x) (hs : PRels G w ps qs) : PRels G w ((i, l) :: ps) ((i, x) :: qs) := by
  refine ⟨by simp [hs.1], fun j p q h1 h2 => ?_⟩
  cases j with
  | zero => simp at h1 h2; subst h1 h2; exact ⟨rfl, h⟩
  | succ j => exact hs.2 j p q (by simpa using h1) (by simpa using h2)

theorem fillK_ok {place : Nat → (Nat → Nat → Prop) → Prop} {pl : Nat → Option (Nat × Nat)} (hpl : ∀ i kk, place i kk → ∃ off sz, pl i = some (off, sz) ∧ kk off sz) {k : List LV → Prop} :
    ∀ {ps : List (Nat × LV)} {cs : List LV} {qs : List (Nat × Value)} {cells : Array Value}, fillK place cs ps k → Rels G w cs cells.toList → PRels G w ps qs →
      ∃ cs' cells', k cs' ∧ Instr.fill pl cells qs = some cells' ∧ Rels G w cs' cells'.toList ∧ ((∀ v ∈ cells.toList, v.oneCell' = true) → ∀ v ∈ cells'.toList, v.oneCell' = true) := by
  intro ps
  induction ps with
  | nil =>
    intro cs qs cells h hr hp
    have : qs = [] := List.eq_nil_of_length_eq_zero hp.1.symm
    subst this
    exact ⟨cs, cells, h, rfl, hr, fun h => h⟩
  | cons p ps ih =>
    intro cs qs cells h hr hp
    obtain ⟨i, x⟩ := p
    cases qs with
    | nil => have := hp.1; simp at this
    | cons q qs =>
      obtain ⟨e, hx⟩ := hp.2 0 (i, x) q rfl rfl
      obtain ⟨j, xv⟩ := q
      simp at e hx
      subst e
      have hps : PRels G w ps qs := ⟨by have := hp.1; simpa using this, fun i p q h1 h2 => hp.2 (i + 1) p q (by simpa using h1) (by simpa using h2)⟩
      obtain ⟨off, sz, h1, h2⟩ := hpl _ _ h
      obtain ⟨pc, h3, h4, h5⟩ := cellsK_ok h2 hx
      split at h3
      · rename_i hsz
        have hsz : pc.length = sz := by simpa using hsz
        obtain ⟨h6, h7⟩ := spliceK_iff.1 h3
        have hcs : cs.length = cells.size := by have := hr.1; simpa using this
        have hxs : xv.cells.size = pc.length := by have := h4.1; simp at this; exact this.symm
        have hf := foldl_set' xv off cells (by omega)
        generalize hc' : xv.cells.zipIdx.foldl (fun cs (x : Value × Nat) => cs.setIfInBounds (off + x.2) x.1) cells = cells' at hf
        have hr' : Rels G w (cs.take off ++ pc ++ cs.drop (off + pc.length)) cells'.toList := by
          rw [hf]
          exact rels_splice hr h4 off
        obtain ⟨cs2, cells2, h8, h9, h10, h11⟩ := ih h7 hr' hps
        refine ⟨cs2, cells2, h8, ?_, h10, fun hall => h11 (fun v hv => ?_)⟩
        · unfold Instr.fill
          rw [h1]
          have hn : ¬ (xv.cells.size ≠ sz || off + xv.cells.size > cells.size) = true := by
            simp [hxs, hsz]
            omega
          simp only [hn]
          rw [← h9, ← hc']
          rfl
        · rw [hf] at hv
          simp only [List.mem_append] at hv
          rcases hv with (hv | hv) | hv
          · exact hall v (List.mem_of_mem_take hv)
          · exact h5 v hv
          · exact hall v (List.mem_of_mem_drop hv)
      · exact h3.elim

theorem placesK_ok {P : Program} {X : Ctx} (hX : OK P X) (w0 : World) {fs : List Field} {k : List (Nat × Nat) → Prop} (h : placesK X fs k) :
    ∃ l, k l ∧ (fs.mapM (m := Sem) fun f => do pure (f.offset, ← Go.sizeOf f.type)).run P w0 = .ok l w0 := by
  induction fs generalizing k with
  | nil => exact ⟨[], h, rfl⟩
  | cons f fs ih =>
    obtain ⟨df, h1, h2⟩ := tdK_iff.1 h
    obtain ⟨l, h3, h4⟩ := ih h2
    refine ⟨(f.offset, df.sz) :: l, h3, ?_⟩
    simp only [List.mapM_cons, Sem.run_bind, (hX.T _ _ h1).sizeOf w0, Result.andThen_ok, Sem.run_pure, h4]

theorem buildK_ok {P : Program} {X : Ctx} (hX : OK P X) {ty : Nat} {ps : List (Nat × LV)} {qs : Array (Nat × Value)} {k : LV → Prop} (h : buildK X ty ps k) (hp : PRels G w ps qs.toList) :
    ∃ l v, k l ∧ (Instr.build ty qs).run P w = .ok v w ∧ Rel G w l v := by
  obtain ⟨d, h1, h2⟩ := tdK_iff.1 h
  have hd := hX.T _ _ h1
  obtain ⟨z, hz1, hz2⟩ := hd.zeroV w
  have hz : Rels G w (d.zero.map .v) z.cells.toList := by rw [hz2]; exact rels_v _
  split at h2
  · rename_i fs hdesc
    obtain ⟨l, h3, h4⟩ := placesK_ok hX w h2
    obtain ⟨cs, cells, h5, h6, h7, _⟩ := fillK_ok (G := G) (w := w) (pl := fun i => l[i]?) (fun i kk hkk => by
      obtain ⟨⟨off, sz⟩, h5, h6⟩ := getK_iff.1 hkk
      exact ⟨off, sz, h5, h6⟩) h3 hz hp
    refine ⟨_, _, h5, ?_, .agg cs cells.toList h7.1 h7.2⟩
    have hm : (fs.mapM (m := Sem) fun f => do pure (f.offset, ← Go.sizeOf f.type)).run P w = .ok l.toArray w := by
      rw [Array.mapM_eq_mapM_toList, Sem.run_map, h4]
      rfl
    simp only [Instr.build, Sem.run_bind, hz1, Result.andThen_ok, hd.under w, hdesc, hm]
    have : (fun x : Nat => l.toArray[x]?) = fun x : Nat => l[x]? := by funext x; simp
    rw [this, h6]
    simp
  · rename_i len el hdesc
    obtain ⟨de, h3, h4⟩ := tdK_iff.1 h2
    have hde := hX.T _ _ h3
    obtain ⟨cs, cells, h5, h6, h7, _⟩ := fillK_ok (G := G) (w := w) (pl := fun i => some (i * de.sz, de.sz)) (fun i kk hkk => ⟨_, _, rfl, hkk⟩) h4 hz hp
    refine ⟨_, _, h5, ?_, .agg cs cells.toList h7.1 h7.2⟩
    simp only [Instr.build, Sem.run_bind, hz1, Result.andThen_ok, hd.under w, hdesc, hde.sizeOf w, h6]
    simp
  · exact h2.elim
end

section
variable {P : Program} {G : Gh} {w : World} {h : List Blk}

theorem zerosK_iff {z : List LV} {n : Nat} {k : List LV → Prop} : zerosK z n k ↔ k (List.replicate n z).flatten := by
  induction n generalizing k with
  | zero => simp [zerosK]
  | succ n ih => simp [zerosK, ih, appK_iff, List.replicate_succ]

theorem chunkK_ok {sz : Nat} : ∀ {n : Nat} {cs : List LV} {k : List (List LV) → Prop}, chunkK sz n cs k → cs.length = n * sz →
    ∃ es, k es ∧ es.length = n ∧ (∀ (i : Nat) e, es[i]? = some e → e.length = sz) ∧ ∀ (i j : Nat) e c, es[i]? = some e → e[j]? = some c → cs[i * sz + j]? = some c := by
  intro n
  induction n with
  | zero => intro cs k h hl; exact ⟨[], h, rfl, by simp, by simp⟩
  | succ n ih =>
    intro cs k h hl
    rw [Nat.succ_mul] at hl
    obtain ⟨h1, h2⟩ := takeK_iff.1 h
    obtain ⟨h3, h4⟩ := dropK_iff.1 h2
    obtain ⟨es, h5, h6, h7, h8⟩ := ih h4 (by simp; omega)
    refine ⟨cs.take sz :: es, h5, by simp [h6], fun i e he => ?_, fun i j e c he hc => ?_⟩
    · cases i with
      | zero => simp at he; subst he; simp; omega
      | succ i => exact h7 i e (by simpa using he)
    · cases i with
      | zero =>
        simp at he
        subst he
        rw [List.getElem?_take] at hc
        split at hc
        · simpa using hc
        · cases hc
      | succ i =>
        have := h8 i j e c (by simpa using he) hc
        rw [List.getElem?_drop] at this
        rw [Nat.succ_mul]
        rw [show i * sz + sz + j = sz + (i * sz + j) by omega]
        exact this

theorem flatten_replicate_get (z : List Value) (n q : Nat) (hq : q < n * z.length) : (List.replicate n z).flatten[q]? = z[q % z.length]? := by
  induction n generalizing q with
  | zero => omega
  | succ n ih =>
    rw [List.replicate_succ, List.flatten_cons]
    have hpos : 0 < z.length := by
      rcases Nat.eq_zero_or_pos z.length with h | h
      · rw [h] at hq; omega
      · exact h
    rcases Nat.lt_or_ge q z.length with h | h
    · rw [List.getElem?_append_left h, Nat.mod_eq_of_lt h]
    · rw [List.getElem?_append_right h, ih (q - z.length) (by rw [Nat.succ_mul] at hq; omega)]
      rw [Nat.mod_eq_sub_mod h]

/-- The zero cells of a row, as the model lays them. -/
theorem range_zero (z : Array Value) (n sz : Nat) (hz : z.size = sz) : ((Array.range (n * sz)).map (z[· % z.size]!)).toList = (List.replicate n z.toList).flatten := by
  apply List.ext_getElem?
  intro q
  have hlen : (List.replicate n z.toList).flatten.length = n * sz := by simp [hz]
  rcases Nat.lt_or_ge q (n * sz) with h | h
  · have hpos : 0 < z.size := by
      rcases Nat.eq_zero_or_pos z.size with h0 | h0
      · rw [hz] at h0; rw [h0] at h; omega
      · exact h0
    rw [flatten_replicate_get z.toList n q (by simpa [hz] using h)]
    simp [h, Nat.mod_lt _ hpos, getElem!_pos]
  · rw [List.getElem?_eq_none (by simpa using h), List.getElem?_eq_none (by rw [hlen]; exact h)]

theorem rels_flatten (z : List Value) (n : Nat) : Rels G w (List.replicate n (z.map .v)).flatten (List.replicate n z).flatten := by
  induction n with
  | zero => exact rels_nil
  | succ n ih => rw [List.replicate_succ, List.replicate_succ, List.flatten_cons, List.flatten_cons]; exact rels_append (rels_v z) ih

theorem flatten_one (z : List Value) (hz : ∀ v ∈ z, v.oneCell' = true) (n : Nat) : ∀ v ∈ (List.replicate n z).flatten, v.oneCell' = true := by
  intro v hv
  obtain ⟨l, hl, hvl⟩ := List.mem_flatten.1 hv
  rw [List.eq_of_mem_replicate hl] at hvl
  exact hz v hvl

/-- A new row out of cells. -/
theorem new_row {el : TypeId} {sz n : Nat} {es : List (List LV)} {vs : List Value} (hh : HRel G w h) (hpos : 0 < sz) (hf : Flat G.R w sz es vs) (hn : es.length = n) (hmax : n ≤ 9223372036854775807) :
    HRel (G.new w sz n) (w.alloc (.cells vs.toArray el)) (h ++ [.row sz true es]) ∧ Rel (G.new w sz n) (w.alloc (.cells vs.toArray el)) (.sl h.length 0 n (some n)) (.slice (some ⟨w.heap.size, 0, none⟩) n n) := by
  have hgr := Grew.alloc w (.cells vs.toArray el)
  have he := Ext.new (G := G) hgr sz n
  have hρ : (G.new w sz n).ρ G.n = ⟨w.heap.size, sz, n⟩ := by simp [Gh.new]
  constructor
  · refine hh.new hgr _ _ (BRel.of_flat (vs := vs) (cur := vs.toArray) (e := el) ?_ ?_ hpos ?_ ?_ ?_ ?_ ?_ ?_ (hf.mono he.rd (he.keepR hh)))
    · rw [hρ]; exact .inr rfl
    · rw [hρ]
    · rw [hρ]; exact Nat.le_of_eq hn
    · intro _; rw [hρ]; exact hn
    · rw [hρ]; exact hmax
    · rw [hρ]; exact hgr.at_
    · rw [hρ]; simp [hf.len, hn]
    · rw [List.take_of_length_le (by simp [hf.len])]
  · have := Rel.sl (G := G.new w sz n) (w := w.alloc (.cells vs.toArray el)) G.n 0 n (some n) n (by simp [Gh.new]) (Nat.le_refl _) (by rw [hρ]; simp) (by simp)
    rw [hρ] at this
    rw [← hh.n]
    simpa using this

theorem buildSliceK_ok {X : Ctx} (hX : OK P X) {ty len : Nat} {ps : List (Nat × LV)} {qs : Array (Nat × Value)} {k : LV → List Blk → Prop} (hk : buildSliceK X h ty len ps k) (hh : HRel G w h) (hp : PRels G w ps qs.toList) :
    ∃ v w' r h' G', (Instr.buildSlice ty len qs).run P w = .ok v w' ∧ k r h' ∧ Ext G.n G w G' w' ∧ HRel G' w' h' ∧ Rel G' w' r v := by
  obtain ⟨d, h1, hk⟩ := tdK_iff.1 hk
  have hd := hX.T _ _ h1
  split at hk
  · rename_i el hdesc
    obtain ⟨de, h2, hk⟩ := tdK_iff.1 hk
    have hde := hX.T _ _ h2
    split at hk
    · exact hk.elim
    · rename_i hb
      have hb : 0 < de.sz ∧ len * de.sz ≤ 65536 := by simpa using hb
      have hk := zerosK_iff.1 hk
      obtain ⟨z, hz1, hz2⟩ := hde.zeroV w
      obtain ⟨i, z', hi, hisz, hib, hiz, hzc⟩ := hde.i
      have hone : ∀ v ∈ de.zero, v.oneCell' = true := fun v hv => List.all_eq_true.1 hde.one v hv
      have hzr : ∃ zr : Array Value, ((len * de.sz = 0 ∧ zr = #[]) ∨ (¬ len * de.sz = 0 ∧ zr = z.cells)) ∧ ((Array.range (len * de.sz)).map (zr[· % zr.size]!)).toList = (List.replicate len de.zero).flatten := by
        by_cases hl : len * de.sz = 0
        · refine ⟨#[], .inl ⟨hl, rfl⟩, ?_⟩
          have : len = 0 := by
            rcases Nat.eq_zero_or_pos len with h | h
            · exact h
            · have := Nat.mul_pos h hb.1; omega
          subst this
          simp
        · refine ⟨z.cells, .inr ⟨hl, rfl⟩, ?_⟩
          rw [range_zero z.cells len de.sz (by have := hde.zl; rw [← hz2] at this; simpa using this), hz2]
      obtain ⟨zr, hzr1, hbase⟩ := hzr
      generalize hcells : (Array.range (len * de.sz)).map (zr[· % zr.size]!) = base at hbase
      obtain ⟨cs, cells, h5, h6, h7, h8⟩ := fillK_ok (G := G) (w := w) (pl := fun i => some (i * de.sz, de.sz)) (cells := base) (fun i kk hkk => ⟨_, _, rfl, hkk⟩) hk (by rw [hbase]; exact rels_flatten _ _) hp
      obtain ⟨h9, h10⟩ := cleanK_ok h5 h7
      have hfill : ∀ (qs : List (Nat × Value)) (a b : Array Value), Instr.fill (fun i => some (i * de.sz, de.sz)) a qs = some b → b.size = a.size := by
        intro qs
        induction qs with
        | nil => intro a b h; simp [Instr.fill] at h; rw [h]
        | cons q qs ih =>
          intro a b h
          obtain ⟨j, v⟩ := q
          simp only [Instr.fill] at h
          split at h
          · cases h
          · rename_i hc
            rw [ih _ _ h]
            have hle : j * de.sz + v.cells.size ≤ a.size := by simp at hc; omega
            have := congrArg List.length (foldl_set' v (j * de.sz) a hle)
            simp at this
            simp
            omega
      have hbs : base.size = len * de.sz := by rw [← hcells]; simp
      have hcl : cells.size = len * de.sz := (hfill _ _ _ h6).trans hbs
      have hcs : cs.length = len * de.sz := by rw [h7.1]; simpa using hcl
      obtain ⟨es, h11, h12, h13, h14⟩ := chunkK_ok h9 hcs
      have h15 := snocK_iff.1 h11
      have hf : Flat G.R w de.sz es cells.toList := ⟨by simp [hcl, h12], h13, fun i j e c he hc => by
        have h16 := h14 i j e c he hc
        have hlt : i * de.sz + j < cells.toList.length := by rw [← h10.1]; exact (List.getElem?_eq_some_iff.1 h16).1
        refine ⟨cells.toList[i * de.sz + j], List.getElem?_eq_getElem hlt, ?_, h10.2 _ _ _ h16 (List.getElem?_eq_getElem hlt)⟩
        exact h8 (by rw [hbase]; exact flatten_one _ hone _) _ (List.getElem_mem hlt)⟩
      have hll : len ≤ 65536 := Nat.le_trans (Nat.le_mul_of_pos_right _ hb.1) hb.2
      obtain ⟨h17, h18⟩ := new_row (el := el) hh hb.1 hf h12 (by omega)
      refine ⟨_, _, _, _, _, ?_, h15, Ext.new (Grew.alloc w _) de.sz len, h17, h18⟩
      have hbig : ¬ (len * de.sz > 2 ^ 24) := by have := hb.2; omega
      simp only [Instr.buildSlice, Sem.run_bind, hd.under w, hdesc, hde.sizeOf w, Result.andThen_ok, hbig, if_false, Sem.run_pure]
      rcases hzr1 with ⟨hl0, rfl⟩ | ⟨hl0, rfl⟩
      · rw [if_pos hl0]
        have h6' := h6
        rw [← hcells] at h6'
        simp only [Sem.run_bind, Sem.run_pure, Result.andThen_ok, h6']
        simp [newRow]
      · rw [if_neg hl0]
        simp only [Sem.run_bind, hz1, Result.andThen_ok, Sem.run_pure, hcells, h6]
        simp [newRow]
  · exact hk.elim

theorem storeK_ok {X : Ctx} (hX : OK P X) {ty : Nat} {p x : LV} {k : List Blk → Prop} {pv xv : Value} (hk : storeK X h ty p x k) (hh : HRel G w h) (hp : Rel G w p pv) (hx : Rel G w x xv) :
    ∃ w' h', (Instr.storeAt ty pv xv).run P w = .ok () w' ∧ k h' ∧ Ext G.n G w G w' ∧ HRel G w' h' := by
  obtain ⟨d, h1, hk⟩ := tdK_iff.1 hk
  have hd := hX.T _ _ h1
  obtain ⟨cs, hk, hcs, hone⟩ := cellsK_ok hk hx
  unfold lenB at hk
  split at hk
  rotate_left
  · exact hk.elim
  · rename_i hsz
    have hsz : cs.length = d.sz := by simpa using hsz
    have hvs : xv.cells.size = d.sz := by have := hcs.1; simp at this; omega
    cases p with
    | ptr id i sub =>
      obtain ⟨hid, rfl⟩ := rel_ptr hp
      obtain ⟨b, hb, hk⟩ := getK_iff.1 hk
      have hbr := hh.blk id b hb
      have hrun : ∀ (o : Nat) (cur : Array Value) (e : TypeId), w.heap[(G.ρ id).b]? = some (.cells cur e (0, 0)) → o + xv.cells.toList.length ≤ cur.size →
          (Instr.storeAt ty (.pointer (some ⟨(G.ρ id).b, o, none⟩)) xv).run P w = .ok () (w.setRow (G.ρ id).b (cur.toList.take o ++ xv.cells.toList ++ cur.toList.drop (o + xv.cells.toList.length)).toArray) := by
        intro o cur e hcur hle
        have hst := run_storeCells_at P (G.ρ id).b o e xv.cells.toList 0 cur w hcur (by simpa using hle) hone
        simp only [Nat.add_zero] at hst
        simp [Instr.storeAt, Instr.sureAddr, storeVar, hd.sizeOf w, hvs, hst]
      cases b with
      | box old =>
        cases i with
        | succ i => exact hk.elim
        | zero =>
          obtain ⟨h2, hk⟩ := spliceK_iff.1 hk
          obtain ⟨_, hk⟩ := setK_iff.1 hk
          obtain ⟨ho, hbsz, cur, e, hcur, hsize, hat⟩ := hbr
          have hle : sub + xv.cells.toList.length ≤ cur.size := by rw [← hcs.1, hsize]; exact h2
          have hr := hrun sub cur e hcur hle
          have e0 : 0 * (G.ρ id).sz + sub = sub := by omega
          rw [e0]
          generalize hcur' : (cur.toList.take sub ++ xv.cells.toList ++ cur.toList.drop (sub + xv.cells.toList.length)).toArray = cur' at hr
          have hwr := Wrote.setRow w (G.ρ id).b cur'
          have he := Ext.wrote (G := G) hwr ho
          refine ⟨_, _, hr, hk, he, hh.wrote hb rfl hwr ⟨ho, ?_, cur', e, setRow_heap w _ cur _ e _ hcur, ?_, fun j c hc => ?_⟩⟩
          · rw [hbsz]; simp; omega
          · rw [← hcur']
            have := hcs.1
            simp at this hle
            simp
            omega
          · have holdr : Rels G w old cur.toList := ⟨by simpa using hsize.symm, fun i l x h3 h4 => by
              obtain ⟨y, h5, _, h6⟩ := hat i l h3
              have : cur.toList[i]? = some y := by simpa using h5
              rw [this] at h4
              injection h4 with h4
              subst h4
              exact h6⟩
            have hsp := rels_splice holdr hcs sub
            have hcl : cur'.toList = cur.toList.take sub ++ xv.cells.toList ++ cur.toList.drop (sub + xv.cells.toList.length) := by rw [← hcur']
            rw [← hcl] at hsp
            obtain ⟨y, h7, h8⟩ := rels_get hsp hc
            refine ⟨y, by simpa using h7, ?_, h8.ext hh he⟩
            have hmem : y ∈ cur'.toList := List.mem_of_getElem? h7
            rw [hcl] at hmem
            simp only [List.mem_append] at hmem
            have hcurone : ∀ v ∈ cur.toList, v.oneCell' = true := by
              intro v hv
              obtain ⟨q, hq, rfl⟩ := List.mem_iff_getElem.1 hv
              have hq' : q < old.length := by rw [← hsize]; simpa using hq
              obtain ⟨y, h5, h6, _⟩ := hat q _ (List.getElem?_eq_getElem hq')
              have : cur.toList[q]? = some y := by simpa using h5
              rw [List.getElem?_eq_getElem hq] at this
              injection this with this
              rw [this]
              exact h6
            rcases hmem with (hm | hm) | hm
            · exact hcurone y (List.mem_of_mem_take hm)
            · exact hone y hm
            · exact hcurone y (List.mem_of_mem_drop hm)
      | row sz ex es =>
        obtain ⟨hk, hcl⟩ := cleanK_ok hk hcs
        simp only [eltK] at hk
        split at hk
        · rename_i el hel
          obtain ⟨h2, hk⟩ := spliceK_iff.1 hk
          obtain ⟨_, hk⟩ := setK_iff.1 hk
          obtain ⟨ho, hbsz, hpos, hcap, hex, hmax, cur, e, hcur, hsize, hlen, hat⟩ := hbr
          have hi := (List.getElem?_eq_some_iff.1 hel).1
          have hell := hlen i el hel
          have hbound : i * sz + sz ≤ cur.size := by
            rw [hsize, ← Nat.succ_mul]
            exact Nat.mul_le_mul_right _ (by omega)
          have hle : i * sz + sub + xv.cells.toList.length ≤ cur.size := by
            have := hcs.1
            simp at this ⊢
            omega
          have hr := hrun (i * sz + sub) cur e hcur hle
          rw [hbsz]
          generalize hcur' : (cur.toList.take (i * sz + sub) ++ xv.cells.toList ++ cur.toList.drop (i * sz + sub + xv.cells.toList.length)).toArray = cur' at hr
          have hwr := Wrote.setRow w (G.ρ id).b cur'
          have he := Ext.wrote (G := G) hwr ho
          have hsize' : cur'.size = cur.size := by
            rw [← hcur']
            simp at hle
            simp
            omega
          have hget : ∀ q, cur'[q]? = if q < i * sz + sub then cur[q]? else if q < i * sz + sub + cs.length then xv.cells.toList[q - (i * sz + sub)]? else cur[q]? := by
            intro q
            have hq : cur'[q]? = cur'.toList[q]? := by simp
            have hxl := hcs.1
            rw [hq, ← hcur']
            simp only [List.append_assoc]
            simp at hle hxl
            split
            · rename_i h3
              rw [List.getElem?_append_left (by simp; omega), List.getElem?_take, if_pos h3]
              simp
            · rename_i h3
              rw [List.getElem?_append_right (by simp; omega)]
              have e1 : (cur.toList.take (i * sz + sub)).length = i * sz + sub := by simp; omega
              rw [e1]
              split
              · rename_i h4
                rw [List.getElem?_append_left (by simp; omega)]
              · rename_i h4
                rw [List.getElem?_append_right (by simp; omega), List.getElem?_drop]
                simp
                congr 1
                omega
          refine ⟨_, _, hr, hk, he, hh.wrote hb rfl hwr ⟨ho, hbsz, hpos, by simpa using hcap, fun h => by simpa using hex h, hmax, cur', e, setRow_heap w _ cur _ e _ hcur, by rw [hsize']; exact hsize, fun i' e' he' => ?_, fun i' j e' c he' hc => ?_⟩⟩
          · by_cases hii : i = i'
            · subst hii
              rw [List.getElem?_set_self hi] at he'
              injection he' with he'
              subst he'
              simp
              omega
            · rw [List.getElem?_set_ne hii] at he'
              exact hlen i' e' he'
          · by_cases hii : i = i'
            · subst hii
              rw [List.getElem?_set_self hi] at he'
              injection he' with he'
              subst he'
              have hj := (List.getElem?_eq_some_iff.1 hc).1
              simp at hj
              rw [hget]
              by_cases h3 : j < sub
              · rw [if_pos (by omega)]
                rw [List.append_assoc, List.getElem?_append_left (by simp; omega), List.getElem?_take, if_pos h3] at hc
                obtain ⟨x, h4, h5, h6⟩ := hat i j el c hel hc
                exact ⟨x, h4, h5, h6.ext hh he⟩
              · rw [if_neg (by omega)]
                rw [List.append_assoc, List.getElem?_append_right (by simp; omega)] at hc
                have e1 : (el.take sub).length = sub := by simp; omega
                rw [e1] at hc
                by_cases h4 : j < sub + cs.length
                · rw [if_pos (by omega)]
                  rw [List.getElem?_append_left (by omega)] at hc
                  have hxl := hcl.1
                  have hlt : j - sub < xv.cells.toList.length := by omega
                  refine ⟨xv.cells.toList[j - sub], ?_, hone _ (List.getElem_mem hlt), (hcl.2 _ _ _ hc (List.getElem?_eq_getElem hlt)).ext hh he⟩
                  rw [show i * sz + j - (i * sz + sub) = j - sub by omega]
                  exact List.getElem?_eq_getElem hlt
                · rw [if_neg (by omega)]
                  rw [List.getElem?_append_right (by omega), List.getElem?_drop] at hc
                  rw [show sub + cs.length + (j - sub - cs.length) = j by omega] at hc
                  obtain ⟨x, h5, h6, h7⟩ := hat i j el c hel hc
                  exact ⟨x, h5, h6, h7.ext hh he⟩
            · rw [List.getElem?_set_ne hii] at he'
              obtain ⟨x, h5, h6, h7⟩ := hat i' j e' c he' hc
              refine ⟨x, ?_, h6, h7.ext hh he⟩
              have hj : j < sz := by rw [← hlen i' e' he']; exact (List.getElem?_eq_some_iff.1 hc).1
              rw [hget]
              rcases Nat.lt_or_gt_of_ne hii with hlt | hgt
              · have : i * sz + sz ≤ i' * sz := by rw [← Nat.succ_mul]; exact Nat.mul_le_mul_right _ hlt
                rw [if_neg (by omega), if_neg (by omega)]
                exact h5
              · have : i' * sz + sz ≤ i * sz := by rw [← Nat.succ_mul]; exact Nat.mul_le_mul_right _ hgt
                rw [if_pos (by omega)]
                exact h5
        · exact hk.elim
      | map ag kn m => exact hk.elim
      | dead => exact hk.elim
    | _ => exact hk.elim
end
end E
end Go.Proofs.YtjhognibibmeiaaGreatDoor
