/-
  THE EVALUATOR, fifth part: append.
-/
import Derived.Test.YtjhognibibmeiaaGreatDoorEd
set_option linter.unusedVariables false
namespace Go.Proofs.YtjhognibibmeiaaGreatDoor
namespace E
open Go Go.RowKit

/-- The block of id goes by a new name. -/
def Gh.move (G : Gh) (id : Nat) : Gh := { ρ := fun i => if i = G.n then G.ρ id else G.ρ i, n := G.n + 1, R := G.R, own := G.own }

section
variable {G : Gh} {w w' : World} {h : List Blk} {id : Nat} {bk bk' : Blk}
theorem Ext.move (id : Nat) : Ext G.n G w (G.move id) w where
  os := rfl
  tape := rfl
  output := rfl
  drawn := Nat.le_refl _
  size := Nat.le_refl _
  keep _ _ _ := rfl
  own b h := .inl h
  rd b h := h
  rd' b h := .inl h
  ρ i hi := by simp only [Gh.move]; rw [if_neg (by omega)]
  le := Nat.le_refl _
  le' := by simp [Gh.move]

theorem Rel.move {l : LV} {x : Value} (hr : Rel G w l x) (id : Nat) : Rel (G.move id) w l x :=
  hr.mono (by simp [Gh.move]) (fun i hi => by simp only [Gh.move]; rw [if_neg (by omega)]) (fun _ h => h) (fun _ _ => rfl)

/-- The same block under a new name. -/
theorem BRel.rename (hb : BRel G w id bk) (hid : id < G.n) : BRel (G.move id) w G.n bk := by
  have e : (G.move id).ρ G.n = G.ρ id := by simp [Gh.move]
  cases bk with
  | dead => trivial
  | row sz ex es =>
    obtain ⟨h1, h2, h3, h4, h5, h5', cur, e', h6, h7, h8, h9⟩ := hb
    exact ⟨by rw [e]; exact h1, by rw [e]; exact h2, h3, by rw [e]; exact h4, by rw [e]; exact h5, by rw [e]; exact h5', cur, e', by rw [e]; exact h6, by rw [e]; exact h7, h8, h9⟩
  | box cs =>
    obtain ⟨h1, h2, cur, e', h6, h7, h9⟩ := hb
    refine ⟨by rw [e]; exact h1, by rw [e]; exact h2, cur, e', by rw [e]; exact h6, h7, fun j c hc => ?_⟩
    obtain ⟨x, h10, h11, h12⟩ := h9 j c hc
    exact ⟨x, h10, h11, h12.move id⟩
  | map ag kn m =>
    obtain ⟨h1, es, clock, h6, h7, h9⟩ := hb
    refine ⟨by rw [e]; exact h1, es, clock, by rw [e]; exact h6, h7, fun i key v hv => ?_⟩
    obtain ⟨h13, en, h10, h11, h12⟩ := h9 i key v hv
    exact ⟨h13, en, h10, h11, h12.move id⟩

theorem HRel.move (hh : HRel G w h) (hid : h[id]? = some bk) : HRel (G.move id) w (h.set id .dead ++ [bk]) := by
  have hn := hh.lt hid
  have hd := hh.dead id
  have hlen : (h.set id Blk.dead).length = G.n := by simp [hh.n]
  have hcases : ∀ (i : Nat) b, (h.set id .dead ++ [bk])[i]? = some b → (i < G.n ∧ (h.set id .dead)[i]? = some b) ∨ (i = G.n ∧ b = bk) := by
    intro i b hb
    rcases Nat.lt_or_ge i G.n with hi | hi
    · exact .inl ⟨hi, by rwa [List.getElem?_append_left (by omega)] at hb⟩
    · have : i = G.n := by
        have := (List.getElem?_eq_some_iff.1 hb).1
        simp [hh.n] at this
        have := hh.n
        omega
      subst this
      rw [List.getElem?_append_right (by omega), hlen, Nat.sub_self] at hb
      simp at hb
      exact .inr ⟨rfl, hb.symm⟩
  refine ⟨by simp [Gh.move, hh.n], hh.R, hh.own, fun i b hb => ?_, fun i j bi bj hi hj li lj hne => ?_⟩
  · rcases hcases i b hb with ⟨hi, hb⟩ | ⟨rfl, rfl⟩
    · exact (hd.blk i b hb).mono hh hi (Ext.move id) (fun _ => rfl) (fun _ h => h)
    · exact (hh.blk id b hid).rename hn
  · have old : ∀ i, i < G.n → (G.move id).ρ i = G.ρ i := fun i hi => by simp only [Gh.move]; rw [if_neg (by omega)]
    have new : (G.move id).ρ G.n = G.ρ id := by simp [Gh.move]
    have ne : ∀ (i : Nat) b, (h.set id .dead)[i]? = some b → b.live = true → i ≠ id ∧ h[i]? = some b := by
      intro i b hb hl
      by_cases e : id = i
      · subst e
        have := (List.getElem?_eq_some_iff.1 hb).1
        rw [List.length_set] at this
        rw [List.getElem?_set_self this] at hb
        injection hb with hb
        subst hb
        cases hl
      · rw [List.getElem?_set_ne e] at hb
        exact ⟨Ne.symm e, hb⟩
    rcases hcases i bi hi with ⟨h1, h2⟩ | ⟨rfl, rfl⟩ <;> rcases hcases j bj hj with ⟨h3, h4⟩ | ⟨rfl, rfl⟩
    · rw [old i h1, old j h3]
      exact hd.inj i j bi bj h2 h4 li lj hne
    · rw [old i h1, new]
      obtain ⟨h5, h6⟩ := ne i bi h2 li
      exact hh.inj i id bi bj h6 hid li lj h5
    · rw [old j h3, new]
      obtain ⟨h5, h6⟩ := ne j bj h4 lj
      exact hh.inj id j bi bj hid h6 li lj (Ne.symm h5)
    · exact absurd rfl hne
end

section
variable {P : Program} {G : Gh} {w : World} {h : List Blk}

theorem toInt_le {n m : Nat} (h : n ≤ m) : (n : Int) ≤ (m : Int) := by omega

/-- A row of an append's own making. -/
theorem grown_row {R : Nat → Prop} {sz need : Nat} {es : List (List LV)} {vs : List Value} {z : Array Value} {cap : Nat} (hf : Flat R w sz es vs) (hn : need = es.length) (hge : need ≤ cap) (hz : z.size = sz) :
    (vs.toArray ++ Builtin.zeroCells z (cap - need)).size = cap * sz ∧ (vs.toArray ++ Builtin.zeroCells z (cap - need)).toList.take (es.length * sz) = vs := by
  constructor
  · simp only [Array.size_append, List.size_toArray, size_zeroCells, hf.len, hz, ← Nat.add_mul]
    congr 1
    omega
  · simp only [Array.toList_append]
    rw [← hf.len]
    exact List.take_left

/-- A row of its own, some of its elements laid anew. -/
theorem BRel.over {id sz off : Nat} {ex : Bool} {es ns : List (List LV)} {us : List Value} {cur : Array Value} {e : TypeId} (hb : BRel G w id (.row sz ex es)) (hcur : w.heap[(G.ρ id).b]? = some (.cells cur e (0, 0)))
    (hf : Flat G.R w sz ns us) (hfit : off + ns.length ≤ es.length) {w' : World} (hw' : w'.heap[(G.ρ id).b]? = some (.cells (cur.toList.take (off * sz) ++ us ++ cur.toList.drop (off * sz + us.length)).toArray e (0, 0)))
    (hR : ∀ b, G.R b → w'.heap[b]? = w.heap[b]?) : BRel G w' id (.row sz ex (es.take off ++ ns ++ es.drop (off + ns.length))) := by
  obtain ⟨ho, hρsz, hpos, hlen, hexact, hmax, cur0, e0, hcur0, hcs, hes, hat⟩ := hb
  rw [hcur] at hcur0
  injection hcur0 with hcur0
  injection hcur0 with h1 h2
  subst h1 h2
  have hul := hf.len
  have hoc : off * sz + us.length ≤ cur.size := by
    rw [hul, hcs, ← Nat.add_mul]
    exact Nat.mul_le_mul_right _ (by omega)
  have hnl : (es.take off ++ ns ++ es.drop (off + ns.length)).length = es.length := by simp; omega
  have hget : ∀ (i : Nat) el, (es.take off ++ ns ++ es.drop (off + ns.length))[i]? = some el → (i < off ∧ es[i]? = some el) ∨ (off ≤ i ∧ i < off + ns.length ∧ ns[i - off]? = some el) ∨ (off + ns.length ≤ i ∧ es[i]? = some el) := by
    intro i el hi
    have ht : (es.take off).length = off := by simp; omega
    rw [List.append_assoc] at hi
    rcases Nat.lt_or_ge i off with h | h
    · rw [List.getElem?_append_left (by omega), List.getElem?_take, if_pos h] at hi
      exact .inl ⟨h, hi⟩
    · rw [List.getElem?_append_right (by omega), ht] at hi
      rcases Nat.lt_or_ge i (off + ns.length) with h2 | h2
      · rw [List.getElem?_append_left (by omega)] at hi
        exact .inr (.inl ⟨h, h2, hi⟩)
      · rw [List.getElem?_append_right (by omega), List.getElem?_drop] at hi
        have : off + ns.length + (i - off - ns.length) = i := by omega
        rw [this] at hi
        exact .inr (.inr ⟨h2, hi⟩)
  refine ⟨ho, hρsz, hpos, by omega, fun h => by rw [hnl]; exact hexact h, hmax, _, e, hw', ?_, fun i el hi => ?_, fun i j el c hi hc => ?_⟩
  · simp [← hcs]
    omega
  · rcases hget i el hi with ⟨_, h⟩ | ⟨_, _, h⟩ | ⟨_, h⟩
    · exact hes i el h
    · exact hf.lens _ el h
    · exact hes i el h
  · have hel : el.length = sz := by
      rcases hget i el hi with ⟨_, h⟩ | ⟨_, _, h⟩ | ⟨_, h⟩
      · exact hes i el h
      · exact hf.lens _ el h
      · exact hes i el h
    have hj : j < sz := by rw [← hel]; exact (List.getElem?_eq_some_iff.1 hc).1
    rcases hget i el hi with ⟨h, h1⟩ | ⟨h, h2, h1⟩ | ⟨h, h1⟩
    · obtain ⟨x, h3, h4, h5⟩ := hat i j el c h1 hc
      refine ⟨x, ?_, h4, h5.mono (fun _ h => h) hR⟩
      have hlt := mul_lt_of h hj
      rw [List.getElem?_toArray, List.append_assoc, List.getElem?_append_left (by simp; omega), List.getElem?_take, if_pos hlt]
      simpa using h3
    · obtain ⟨x, h3, h4, h5⟩ := hf.at_ (i - off) j el c h1 hc
      refine ⟨x, ?_, h4, h5.mono (fun _ h => h) hR⟩
      have hlt : (i - off) * sz + j < ns.length * sz := mul_lt_of (by omega) hj
      have e1 : i * sz + j = off * sz + ((i - off) * sz + j) := by
        have : i = off + (i - off) := by omega
        rw [← Nat.add_assoc, ← Nat.add_mul, ← this]
      have hl1 : (cur.toList.take (off * sz)).length = off * sz := by simp; omega
      rw [List.getElem?_toArray, List.append_assoc, e1, List.getElem?_append_right (by omega), hl1, Nat.add_sub_cancel_left, List.getElem?_append_left (by omega)]
      exact h3
    · obtain ⟨x, h3, h4, h5⟩ := hat i j el c h1 hc
      refine ⟨x, ?_, h4, h5.mono (fun _ h => h) hR⟩
      have hge : (off + ns.length) * sz ≤ i * sz := Nat.mul_le_mul_right _ h
      rw [Nat.add_mul, ← hul] at hge
      have hl1 : (cur.toList.take (off * sz)).length = off * sz := by simp; omega
      rw [List.getElem?_toArray, List.append_assoc, List.getElem?_append_right (by omega), hl1, List.getElem?_append_right (by omega), List.getElem?_drop]
      have : off * sz + us.length + (i * sz + j - off * sz - us.length) = i * sz + j := by omega
      rw [this]
      simpa using h3
/-- What is appended or copied: its cells. -/
theorem src_ok {ns : List (List LV)} {xv : Value} {sz : Nat} (hpos : 0 < sz) (hns : (ns = [] ∧ ∃ A c, xv = .slice A 0 c) ∨
      ∃ (b o c sz : Nat) (val : Nat → Nat → Value), xv = .slice (some ⟨b, o, none⟩) ns.length c ∧ (∀ (i : Nat) e, ns[i]? = some e → e.length = sz) ∧
        (∀ (i j : Nat) e, ns[i]? = some e → j < sz → At w b (o + (i * sz + j)) (val i j)) ∧ ∀ (i j : Nat) e c, ns[i]? = some e → e[j]? = some c → RRel G.R w c (val i j)) :
    ∃ A c, xv = .slice A ns.length c ∧ ((∀ e ∈ ns, e.length = sz) → ns = [] ∨ ∃ b o us, A = some ⟨b, o, none⟩ ∧ Flat G.R w sz ns us ∧ ∀ (j : Nat) v, us[j]? = some v → w.cell? ⟨b, o + j, none⟩ = some v) := by
  rcases hns with ⟨rfl, A, c, rfl⟩ | ⟨b, o, c, sz', val, rfl, h1, h2, h3⟩
  · exact ⟨A, c, rfl, fun _ => .inl rfl⟩
  · refine ⟨some ⟨b, o, none⟩, c, rfl, fun hlen => ?_⟩
    rcases ns with _ | ⟨e0, es⟩
    · exact .inl rfl
    · have e1 : sz' = sz := by rw [← h1 0 e0 rfl]; exact hlen e0 (by simp)
      subst e1
      obtain ⟨us, h4, h5, h6⟩ := Flat.of_at (w := w) hpos h1 h2 h3
      exact .inr ⟨b, o, us, rfl, h4, h5⟩

theorem appendK_ok {t ty el sz byt : Nat} {d de : TD} {s x : LV} {sv xv : Value} {k : LV → List Blk → Prop} (hk : appendK h sz byt s x k) (hd : Facts P t d) (hdesc : d.desc = .slice el) (hde : Facts P el de)
    (hsz : de.sz = sz) (hbyt : de.bytes = byt) (hpos : 0 < sz) (hbpos : 0 < byt) (hzl : de.zero.length = sz) (hh : HRel G w h) (hs : Rel G w s sv) (hx : Rel G w x xv) :
    ∃ v w' r h' G', (Builtin.append_ #[t, t] ty #[sv, xv]).run P w = .ok v w' ∧ k r h' ∧ Ext G.n G w G' w' ∧ HRel G' w' h' ∧ Rel G' w' r v := by
  obtain ⟨ns, hk, hns⟩ := elemsK_ok hk hh hx
  have hu : P.underlying t = some (.slice el) := hdesc ▸ hd.u
  obtain ⟨i, z, hi, hisz, hib, hiz, hzc⟩ := hde.i
  have hzs : z.cells.size = sz := by rw [← Array.length_toList, hzc, hzl]
  -- the source
  have hsrc : ∃ A c, xv = .slice A ns.length c ∧ ((∀ e ∈ ns, e.length = sz) → ns = [] ∨ ∃ b o us, A = some ⟨b, o, none⟩ ∧ Flat G.R w sz ns us ∧ ∀ (j : Nat) v, us[j]? = some v → w.cell? ⟨b, o + j, none⟩ = some v) := by
    rcases hns with ⟨rfl, A, c, rfl⟩ | ⟨b, o, c, sz', val, rfl, h1, h2, h3⟩
    · exact ⟨A, c, rfl, fun _ => .inl rfl⟩
    · refine ⟨some ⟨b, o, none⟩, c, rfl, fun hlen => ?_⟩
      rcases ns with _ | ⟨e0, es⟩
      · exact .inl rfl
      · have e1 : sz' = sz := by rw [← h1 0 e0 rfl]; exact hlen e0 (by simp)
        subst e1
        obtain ⟨us, h4, h5, h6⟩ := Flat.of_at (w := w) hpos h1 h2 h3
        exact .inr ⟨b, o, us, rfl, h4, h5⟩
  obtain ⟨A, c, rfl, hsrc⟩ := hsrc
  split at hk
  · -- nil
    obtain ⟨hb, hlen, hk⟩ := hk
    obtain rfl := rel_v hs
    rcases hsrc hlen with rfl | ⟨b, o, us, rfl, hf, hc⟩
    · refine ⟨.slice none 0 0, w, _, h, G, ?_, hk, Ext.refl (Nat.le_refl _), hh, .r _ _ (.v _)⟩
      cases A <;> simp [Builtin.append_, run_underlying hu, Go.sizeOf, typeInfo, hi, Builtin.lenOf, Builtin.firstCells, loadCells, loadCellsFrom]
    · rcases ns with _ | ⟨e0, es⟩
      · have hus : us = [] := List.eq_nil_of_length_eq_zero (by simpa using hf.len)
        refine ⟨.slice none 0 0, w, _, h, G, ?_, hk, Ext.refl (Nat.le_refl _), hh, .r _ _ (.v _)⟩
        simp [Builtin.append_, run_underlying hu, Go.sizeOf, typeInfo, hi, Builtin.lenOf, Builtin.firstCells, loadCells, loadCellsFrom]
      · have hk := snocK_iff.1 hk
        generalize hN : (e0 :: es) = N at *
        have hNpos : 0 < N.length := by rw [← hN]; simp
        have hle : N.length ≤ 140737488355328 := Nat.le_trans (Nat.le_mul_of_pos_right _ hbpos) hb
        have hr := run_append_nil (P := P) w t ty el i z hu hi hiz ⟨b, o, none⟩ N.length c us (by rw [hf.len, hisz, hsz]) (fun j v hv => by rw [addr_add]; exact hc j v hv) hNpos (by omega)
          (by rw [hib, hbyt]; exact Nat.le_trans hb (by omega))
        have hge := grownCap_ge w N.length 0 el
        have hcm : grownCap w N.length 0 el ≤ maxLen := grownCap_le_maxLen w _ _ _ (by simp [maxLen]; omega)
        obtain ⟨g1, g2⟩ := grown_row (w := w) (z := z.cells) hf rfl hge hzs
        have hgr := Grew.drewAlloc w (.cells (us.toArray ++ Builtin.zeroCells z.cells (grownCap w N.length 0 el - N.length)) el)
        have he := Ext.new (G := G) hgr sz (grownCap w N.length 0 el)
        have hρ : (G.new w sz (grownCap w N.length 0 el)).ρ G.n = ⟨w.heap.size, sz, grownCap w N.length 0 el⟩ := by simp [Gh.new]
        refine ⟨_, _, _, _, G.new w sz (grownCap w N.length 0 el), hr, hk, he, ?_, ?_⟩
        · refine hh.new hgr _ _ (BRel.of_flat (vs := us) (cur := us.toArray ++ Builtin.zeroCells z.cells (grownCap w N.length 0 el - N.length)) (e := el) ?_ ?_ hpos ?_ (by simp) ?_ ?_ ?_ g2 (hf.mono he.rd (he.keepR hh)))
          · rw [hρ]; exact .inr rfl
          · rw [hρ]
          · rw [hρ]; exact hge
          · rw [hρ]; simpa [maxLen] using hcm
          · rw [hρ]; exact hgr.at_
          · rw [hρ]; exact g1
        · have := Rel.sl (G := G.new w sz (grownCap w N.length 0 el)) (w := w.drew.alloc (.cells (us.toArray ++ Builtin.zeroCells z.cells (grownCap w N.length 0 el - N.length)) el)) G.n 0 N.length none (grownCap w N.length 0 el) (by simp [Gh.new]) hge (by rw [hρ]; simp) (by simp)
          rw [hρ] at this
          rw [← hh.n]
          simpa using this
  · -- a row
    rename_i id len hk0
    obtain ⟨hid, cp, rfl, h1, h2, _⟩ := rel_sl hs
    obtain ⟨bk, hbk, hk⟩ := getK_iff.1 hk
    cases bk with
    | row sz' ex es =>
      cases ex with
      | true => exact hk.elim
      | false =>
      obtain ⟨rfl, rfl, hb, hlen, hk⟩ := hk
      obtain ⟨hdead, hk⟩ := setK_iff.1 hk
      have hk := snocK_iff.1 hk
      have hbr := hh.blk id _ hbk
      obtain ⟨cur, e, hcur, hcs, hfl⟩ := hbr.flat
      obtain ⟨ho, hρsz, _, hcap, _, hmax, _⟩ := hbr
      have hleneq : (h.set id Blk.dead).length = G.n := by simp [hh.n]
      have h2' : cp ≤ (G.ρ id).cap := by omega
      have hle : es.length + ns.length ≤ 140737488355328 := Nat.le_trans (Nat.le_mul_of_pos_right _ hbpos) hb
      have hoff : (0 : Nat) * (G.ρ id).sz = 0 := by simp
      rw [hoff]
      rcases hsrc hlen with rfl | ⟨b, o, us, rfl, hf, hc⟩
      · -- nothing is appended
        have hmv := hh.move hbk
        have hρ : (G.move id).ρ G.n = G.ρ id := by simp [Gh.move]
        refine ⟨.slice (some ⟨(G.ρ id).b, 0, none⟩) es.length cp, w, _, _, G.move id, ?_, hk, Ext.move id, by simpa using hmv, ?_⟩
        · cases A <;> simp [Builtin.append_, run_underlying hu, Go.sizeOf, typeInfo, hi, Builtin.lenOf, Builtin.firstCells, loadCells, loadCellsFrom, h1, storeCells]
        · have := Rel.sl (G := G.move id) (w := w) G.n 0 es.length none cp (by simp [Gh.move]) h1 (by rw [hρ]; omega) (by simp)
          rw [hρ] at this
          rw [hleneq]
          simpa using this
      · by_cases hroom : es.length + ns.length ≤ cp
        · -- there is room
          have hfit : es.length * i.size + us.length ≤ cur.size := by
            rw [hisz, hsz, hf.len, hcs, ← Nat.add_mul]
            exact Nat.mul_le_mul_right _ (by omega)
          have hr : (Builtin.append_ #[t, t] ty #[.slice (some ⟨(G.ρ id).b, 0, none⟩) es.length cp, .slice (some ⟨b, o, none⟩) ns.length c]).run P w =
              .ok (.slice (some ⟨(G.ρ id).b, 0, none⟩) (es.length + ns.length) cp) (w.setRow (G.ρ id).b (cur.toList.take (es.length * i.size) ++ us ++ cur.toList.drop (es.length * i.size + us.length)).toArray) := by
            have hff := run_firstCells_some (P := P) w i.size ns.length ⟨b, o, none⟩ ns.length c us (by rw [hf.len, hisz, hsz]) (fun j v hv => by rw [addr_add]; exact hc j v hv)
            have hst := run_storeCells_at P (G.ρ id).b (es.length * i.size) e us 0 cur w hcur (by simpa using hfit) (hf.one hpos)
            simp only [Nat.add_zero] at hst
            simp [Builtin.append_, run_underlying hu, Go.sizeOf, typeInfo, hi, Builtin.lenOf, hroom, hff, Addr.add_lit, hst]
          rw [hisz, hsz] at hr hfit
          generalize hcur' : (cur.toList.take (es.length * sz') ++ us ++ cur.toList.drop (es.length * sz' + us.length)).toArray = cur' at hr
          have hwr := Wrote.setRow w (G.ρ id).b cur'
          have he := Ext.wrote (G := G) hwr ho
          have hsize' : cur'.size = (G.ρ id).cap * sz' := by
            rw [← hcur', ← hcs]
            simp
            omega
          have htake : cur'.toList.take ((es ++ ns).length * sz') = cur.toList.take (es.length * sz') ++ us := by
            rw [← hcur']
            simp only [List.append_assoc]
            rw [← List.append_assoc]
            have : (es ++ ns).length * sz' = (cur.toList.take (es.length * sz') ++ us).length := by
              simp only [List.length_append, List.length_take, Array.length_toList, Nat.add_mul, hf.len]
              have : es.length * sz' ≤ cur.size := by rw [hcs]; exact Nat.mul_le_mul_right _ hcap
              omega
            rw [this]
            exact List.take_left
          have hb' : BRel G (w.setRow (G.ρ id).b cur') id (.row sz' false (es ++ ns)) :=
            BRel.of_flat (cur := cur') (e := e) ho hρsz hpos (by simp; omega) (by simp) hmax (setRow_heap w _ cur _ e _ hcur) hsize' htake
              ((hfl.append hf).mono he.rd (he.keepR hh))
          have hh1 := hh.wrote hbk rfl hwr hb'
          have hbk1 : (h.set id (.row sz' false (es ++ ns)))[id]? = some (.row sz' false (es ++ ns)) := List.getElem?_set_self (List.getElem?_eq_some_iff.1 hbk).1
          have hmv := hh1.move hbk1
          have hρ : (G.move id).ρ G.n = G.ρ id := by simp [Gh.move]
          refine ⟨_, _, _, _, G.move id, hr, hk, he.trans (Ext.move id), ?_, ?_⟩
          · simpa [List.set_set] using hmv
          · have := Rel.sl (G := G.move id) (w := w.setRow (G.ρ id).b cur') G.n 0 (es.length + ns.length) none cp (by simp [Gh.move]) hroom (by rw [hρ]; omega) (by simp)
            rw [hρ] at this
            rw [hleneq]
            simpa using this
        · -- a new row
          have hfl' : (cur.toList.take (es.length * sz')).length = es.length * i.size := by rw [hfl.len, hisz, hsz]
          have hr := run_append_grow (P := P) w t ty el i z hu hi hiz ⟨(G.ρ id).b, 0, none⟩ es.length cp (cur.toList.take (es.length * sz')) hfl' (fun j v hv => by
              rw [addr_add, Nat.zero_add, cell_of_row w _ _ cur e _ hcur]
              rw [List.getElem?_take] at hv
              split at hv
              · simpa using hv
              · cases hv) ⟨b, o, none⟩ ns.length c us (by rw [hf.len, hisz, hsz]) (fun j v hv => by rw [addr_add]; exact hc j v hv) (by omega) (by omega)
              (growslice_fits (by omega) (by rw [hib, hbyt]; exact hb))
          have hge := grownCap_ge w (es.length + ns.length) cp el
          have hcm : grownCap w (es.length + ns.length) cp el ≤ maxLen := grownCap_le_maxLen w _ _ _ (by simp [maxLen]; omega)
          have hfa := hfl.append hf
          obtain ⟨g1, g2⟩ := grown_row (w := w) (z := z.cells) hfa (show es.length + ns.length = (es ++ ns).length by simp) hge hzs
          have eqa : (cur.toList.take (es.length * sz')).toArray ++ us.toArray = (cur.toList.take (es.length * sz') ++ us).toArray := by simp
          rw [eqa] at hr
          generalize hnew : (cur.toList.take (es.length * sz') ++ us).toArray ++ Builtin.zeroCells z.cells (grownCap w (es.length + ns.length) cp el - (es.length + ns.length)) = cur' at hr g1 g2
          have hgr := Grew.drewAlloc w (.cells cur' el)
          have he := Ext.new (G := G) hgr sz' (grownCap w (es.length + ns.length) cp el)
          have hρ : (G.new w sz' (grownCap w (es.length + ns.length) cp el)).ρ G.n = ⟨w.heap.size, sz', grownCap w (es.length + ns.length) cp el⟩ := by simp [Gh.new]
          refine ⟨_, _, _, _, G.new w sz' (grownCap w (es.length + ns.length) cp el), hr, hk, he, ?_, ?_⟩
          · refine (hh.dead id).new hgr _ _ (BRel.of_flat (vs := cur.toList.take (es.length * sz') ++ us) (cur := cur') (e := el) ?_ ?_ hpos ?_ (by simp) ?_ ?_ ?_ g2 (hfa.mono he.rd (he.keepR hh)))
            · rw [hρ]; exact .inr rfl
            · rw [hρ]
            · rw [hρ]; simpa using hge
            · rw [hρ]; simpa [maxLen] using hcm
            · rw [hρ]; exact hgr.at_
            · rw [hρ]; exact g1
          · have := Rel.sl (G := G.new w sz' (grownCap w (es.length + ns.length) cp el)) (w := w.drew.alloc (.cells cur' el)) G.n 0 (es.length + ns.length) none (grownCap w (es.length + ns.length) cp el) (by simp [Gh.new]) hge (by rw [hρ]; simp) (by simp)
            rw [hρ] at this
            rw [hleneq]
            simpa using this
    | box cs => exact hk.elim
    | map ag kn m => exact hk.elim
    | dead => exact hk.elim
  · -- a row whose room is known
    rename_i id len c0 hk0
    obtain ⟨hid, cp, rfl, h1, h2, h3⟩ := rel_sl hs
    obtain ⟨bk, hbk, hk⟩ := getK_iff.1 hk
    cases bk with
    | row sz' ex es =>
      obtain ⟨rfl, hroom, hce, hlen, es', n', rfl, rfl, hk⟩ := hk
      obtain rfl := h3 _ rfl
      obtain ⟨_, hk⟩ := setK_iff.1 hk
      have hbr := hh.blk id _ hbk
      obtain ⟨ho, hρsz, _, hcap, _, hmax, cur, e, hcur, hcs, hes, hat⟩ := hbr
      have hoff : (0 : Nat) * (G.ρ id).sz = 0 := by simp
      rw [hoff]
      rcases hsrc hlen with rfl | ⟨b, o, us, rfl, hf, hc⟩
      · have hsame : es.take len ++ [] ++ es.drop (len + ([] : List (List LV)).length) = es := by simp
        rw [hsame] at hk
        refine ⟨.slice (some ⟨(G.ρ id).b, 0, none⟩) len cp, w, _, _, G, ?_, hk, Ext.refl (Nat.le_refl _), ?_, ?_⟩
        · cases A <;> simp [Builtin.append_, run_underlying hu, Go.sizeOf, typeInfo, hi, Builtin.lenOf, Builtin.firstCells, loadCells, loadCellsFrom, h1, storeCells]
        · have := hh.wrote hbk rfl (⟨rfl, rfl, rfl, Nat.le_refl _, rfl, fun _ _ => rfl⟩ : Wrote w w (G.ρ id).b) (hh.blk id _ hbk)
          exact this
        · have := Rel.sl (G := G) (w := w) id 0 (len + 0) (some cp) cp hid (by simpa using h1) (by omega) (fun c hc => by injection hc)
          rw [hoff] at this
          simpa using this
      · have hfit : len * i.size + us.length ≤ cur.size := by
          rw [hisz, hsz, hf.len, hcs, ← Nat.add_mul]
          exact Nat.mul_le_mul_right _ (by omega)
        have hr : (Builtin.append_ #[t, t] ty #[.slice (some ⟨(G.ρ id).b, 0, none⟩) len cp, .slice (some ⟨b, o, none⟩) ns.length c]).run P w =
            .ok (.slice (some ⟨(G.ρ id).b, 0, none⟩) (len + ns.length) cp) (w.setRow (G.ρ id).b (cur.toList.take (len * i.size) ++ us ++ cur.toList.drop (len * i.size + us.length)).toArray) := by
          have hff := run_firstCells_some (P := P) w i.size ns.length ⟨b, o, none⟩ ns.length c us (by rw [hf.len, hisz, hsz]) (fun j v hv => by rw [addr_add]; exact hc j v hv)
          have hst := run_storeCells_at P (G.ρ id).b (len * i.size) e us 0 cur w hcur (by simpa using hfit) (hf.one hpos)
          simp only [Nat.add_zero] at hst
          simp [Builtin.append_, run_underlying hu, Go.sizeOf, typeInfo, hi, Builtin.lenOf, hroom, hff, Addr.add_lit, hst]
        rw [hisz, hsz] at hr hfit
        have hwr := Wrote.setRow w (G.ρ id).b (cur.toList.take (len * sz') ++ us ++ cur.toList.drop (len * sz' + us.length)).toArray
        have he := Ext.wrote (G := G) hwr ho
        have hb' := BRel.over (off := len) (hh.blk id _ hbk) hcur hf (by omega) (setRow_heap w _ cur _ e _ hcur) (he.keepR hh)
        refine ⟨_, _, _, _, G, hr, hk, he, hh.wrote hbk rfl hwr hb', ?_⟩
        have := Rel.sl (G := G) (w := w.setRow (G.ρ id).b (cur.toList.take (len * sz') ++ us ++ cur.toList.drop (len * sz' + us.length)).toArray) id 0 (len + ns.length) (some cp) cp hid hroom (by omega) (fun c hc => by injection hc)
        rw [hoff] at this
        exact this
    | box cs => exact hk.elim
    | map ag kn m => exact hk.elim
    | dead => exact hk.elim
  · exact hk.elim

theorem copyK_ok {t ty el sz : Nat} {d de : TD} {s x : LV} {sv xv : Value} {k : LV → List Blk → Prop} (hk : copyK h sz s x k) (hd : Facts P t d) (hdesc : d.desc = .slice el) (hde : Facts P el de)
    (hsz : de.sz = sz) (hpos : 0 < sz) (hh : HRel G w h) (hs : Rel G w s sv) (hx : Rel G w x xv) :
    ∃ v w' r h', (Builtin.copy_ #[t, t] ty #[sv, xv]).run P w = .ok v w' ∧ k r h' ∧ Ext G.n G w G w' ∧ HRel G w' h' ∧ Rel G w' r v := by
  obtain ⟨ns, hk, hns⟩ := elemsK_ok hk hh hx
  have hu : P.underlying t = some (.slice el) := hdesc ▸ hd.u
  obtain ⟨i, z, hi, hisz, hib, hiz, hzc⟩ := hde.i
  obtain ⟨A, c, rfl, hsrc⟩ := src_ok (sz := sz) hpos hns
  split at hk
  · rename_i id len cap hk0
    obtain ⟨hid, cp, rfl, h1, h2, h3⟩ := rel_sl hs
    obtain ⟨bk, hbk, hk⟩ := getK_iff.1 hk
    cases bk with
    | row sz' ex es =>
      obtain ⟨rfl, rfl, hce, hlen, es', rfl, hk⟩ := hk
      obtain ⟨_, hk⟩ := setK_iff.1 hk
      have hbr := hh.blk id _ hbk
      obtain ⟨ho, hρsz, _, hcap, _, hmax, cur, e, hcur, hcs, hes, hat⟩ := hbr
      have hoff : (0 : Nat) * (G.ρ id).sz = 0 := by simp
      rw [hoff]
      rcases hsrc hlen with rfl | ⟨b, o, us, rfl, hf, hc⟩
      · refine ⟨goInt 0, w, _, _, ?_, hk, Ext.refl (Nat.le_refl _), ?_, .r _ _ (.v _)⟩
        · cases A <;> simp [Builtin.copy_, run_underlying hu, Go.sizeOf, typeInfo, hi, Builtin.lenOf, Builtin.firstCells, loadCells, loadCellsFrom, storeCells]
        · have := hh.wrote hbk rfl (⟨rfl, rfl, rfl, Nat.le_refl _, rfl, fun _ _ => rfl⟩ : Wrote w w (G.ρ id).b) (hh.blk id _ hbk)
          simpa using this
      · have hfit : us.length ≤ cur.size := by
          rw [hf.len, hcs]
          exact Nat.mul_le_mul_right _ (by omega)
        have hr : (Builtin.copy_ #[t, t] ty #[.slice (some ⟨(G.ρ id).b, 0, none⟩) ns.length cp, .slice (some ⟨b, o, none⟩) ns.length c]).run P w =
            .ok (goInt ns.length) (w.setRow (G.ρ id).b (cur.toList.take 0 ++ us ++ cur.toList.drop (0 + us.length)).toArray) := by
          have hff := run_firstCells_some (P := P) w i.size ns.length ⟨b, o, none⟩ ns.length c us (by rw [hf.len, hisz, hsz]) (fun j v hv => by rw [addr_add]; exact hc j v hv)
          have hst := run_storeCells_at P (G.ρ id).b 0 e us 0 cur w hcur (by simpa using hfit) (hf.one hpos)
          simp only [Nat.add_zero] at hst
          simp [Builtin.copy_, run_underlying hu, Go.sizeOf, typeInfo, hi, Builtin.lenOf, hff, hst]
        have hwr := Wrote.setRow w (G.ρ id).b (cur.toList.take 0 ++ us ++ cur.toList.drop (0 + us.length)).toArray
        have he := Ext.wrote (G := G) hwr ho
        have hw0 := setRow_heap w _ cur (cur.toList.take 0 ++ us ++ cur.toList.drop (0 + us.length)).toArray e _ hcur
        have hb' := BRel.over (off := 0) (hh.blk id _ hbk) hcur hf (by omega) (w' := w.setRow (G.ρ id).b (cur.toList.take 0 ++ us ++ cur.toList.drop (0 + us.length)).toArray) (by rw [hw0]; simp) (he.keepR hh)
        have hb2 : BRel G (w.setRow (G.ρ id).b (cur.toList.take 0 ++ us ++ cur.toList.drop (0 + us.length)).toArray) id (.row sz' ex (ns ++ es.drop ns.length)) := by
          have e2 : es.take 0 ++ ns ++ es.drop (0 + ns.length) = ns ++ es.drop ns.length := by simp
          rw [e2] at hb'
          exact hb'
        exact ⟨_, _, _, _, hr, hk, he, hh.wrote hbk rfl hwr hb2, .r _ _ (.v _)⟩
    | box cs => exact hk.elim
    | map ag kn m => exact hk.elim
    | dead => exact hk.elim
  · exact hk.elim
end
end E
end Go.Proofs.YtjhognibibmeiaaGreatDoor
