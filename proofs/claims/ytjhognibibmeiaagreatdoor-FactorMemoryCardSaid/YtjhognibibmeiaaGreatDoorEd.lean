/-
  THE EVALUATOR, fourth part: new blocks, stores, append.
-/
import Derived.Test.YtjhognibibmeiaaGreatDoorEc
set_option linter.unusedVariables false
namespace Go.Proofs.YtjhognibibmeiaaGreatDoor
namespace E
open Go Go.RowKit

/-! ### A new block -/
def Gh.new (G : Gh) (w : World) (sz cap : Nat) : Gh :=
  { ρ := fun i => if i = G.n then ⟨w.heap.size, sz, cap⟩ else G.ρ i, n := G.n + 1, R := G.R, own := fun b => G.own b ∨ b = w.heap.size }

/-- A world with one block more, some draws later. -/
structure Grew (w w' : World) (o : Obj) : Prop where
  os : w'.os = w.os
  tape : w'.tape = w.tape
  output : w'.output = w.output
  drawn : w.drawn ≤ w'.drawn
  heap : w'.heap = w.heap.push o

section
variable {G : Gh} {w w' : World} {o : Obj} {h : List Blk}
theorem Grew.alloc (w : World) (o : Obj) : Grew w (w.alloc o) o := ⟨rfl, rfl, rfl, Nat.le_refl _, rfl⟩
theorem Grew.drewAlloc (w : World) (o : Obj) : Grew w (w.drew.alloc o) o := ⟨rfl, rfl, rfl, Nat.le_succ _, rfl⟩
theorem Grew.old (g : Grew w w' o) (b : Nat) (hb : b < w.heap.size) : w'.heap[b]? = w.heap[b]? := by
  rw [g.heap, Array.getElem?_push, if_neg (by omega)]
theorem Grew.at_ (g : Grew w w' o) : w'.heap[w.heap.size]? = some o := by
  rw [g.heap, Array.getElem?_push, if_pos rfl]
theorem Grew.size (g : Grew w w' o) : w'.heap.size = w.heap.size + 1 := by rw [g.heap]; simp

theorem Ext.new (g : Grew w w' o) (sz cap : Nat) : Ext G.n G w (G.new w sz cap) w' where
  os := g.os
  tape := g.tape
  output := g.output
  drawn := g.drawn
  size := by rw [g.size]; omega
  keep b hb _ := g.old b hb
  own b hb := by
    rcases hb with hb | hb
    · exact .inl hb
    · exact .inr (by omega)
  rd b hb := hb
  rd' b hb := .inl hb
  ρ i hi := by simp only [Gh.new]; rw [if_neg (by omega)]
  le := Nat.le_refl _
  le' := by simp [Gh.new]

theorem BRel.mono {G' : Gh} {id : Nat} {bk : Blk} (hb : BRel G w id bk) (hh : HRel G w h) (hid : id < G.n) (he : Ext G.n G w G' w')
    (hblk : bk.live = true → w'.heap[(G.ρ id).b]? = w.heap[(G.ρ id).b]?) (ho : bk.live = true → G.own (G.ρ id).b → G'.own (G.ρ id).b) : BRel G' w' id bk := by
  have hρ := he.ρ id hid
  cases bk with
  | dead => trivial
  | row sz ex es =>
    obtain ⟨h1, h2, h3, h4, h5, h5', cur, e, h6, h7, h8, h9⟩ := hb
    refine ⟨by rw [hρ]; exact ho rfl h1, by rw [hρ]; exact h2, h3, by rw [hρ]; exact h4, by rw [hρ]; exact h5, by rw [hρ]; exact h5', cur, e, by rw [hρ, hblk rfl]; exact h6, by rw [hρ]; exact h7, h8, fun i j e c he1 hc => ?_⟩
    obtain ⟨x, h10, h11, h12⟩ := h9 i j e c he1 hc
    exact ⟨x, h10, h11, h12.ext hh he⟩
  | box cs =>
    obtain ⟨h1, h2, cur, e, h6, h7, h9⟩ := hb
    refine ⟨by rw [hρ]; exact ho rfl h1, by rw [hρ]; exact h2, cur, e, by rw [hρ, hblk rfl]; exact h6, h7, fun j c hc => ?_⟩
    obtain ⟨x, h10, h11, h12⟩ := h9 j c hc
    exact ⟨x, h10, h11, h12.ext hh he⟩
  | map ag kn m =>
    obtain ⟨h1, es, clock, h6, h7, h9⟩ := hb
    refine ⟨by rw [hρ]; exact ho rfl h1, es, clock, by rw [hρ, hblk rfl]; exact h6, h7, fun i key v hv => ?_⟩
    obtain ⟨h13, en, h10, h11, h12⟩ := h9 i key v hv
    exact ⟨h13, en, h10, h11, h12.ext hh he⟩

theorem BRel.own {id : Nat} {bk : Blk} (hb : BRel G w id bk) (hl : bk.live = true) : G.own (G.ρ id).b := by
  cases bk with
  | dead => cases hl
  | row sz ex es => exact hb.1
  | box cs => exact hb.1
  | map ag kn m => exact hb.1

theorem HRel.lt (hh : HRel G w h) {id : Nat} {bk : Blk} (hb : h[id]? = some bk) : id < G.n := by
  rw [hh.n]; exact (List.getElem?_eq_some_iff.1 hb).1

theorem HRel.new (hh : HRel G w h) (g : Grew w w' o) (sz cap : Nat) {bk : Blk} (hb : BRel (G.new w sz cap) w' G.n bk) : HRel (G.new w sz cap) w' (h ++ [bk]) where
  n := by simp [Gh.new, hh.n]
  R b hb := by
    obtain ⟨h1, h2⟩ := hh.R b hb
    refine ⟨by rw [g.size]; omega, fun ho => ?_⟩
    rcases ho with ho | ho
    · exact h2 ho
    · omega
  own b hb := by
    rw [g.size]
    rcases hb with hb | hb
    · have := hh.own b hb; omega
    · omega
  blk id bk' hbk := by
    rcases Nat.lt_or_ge id h.length with hi | hi
    · rw [List.getElem?_append_left hi] at hbk
      refine (hh.blk id bk' hbk).mono hh (hh.lt hbk) (Ext.new g sz cap) (fun hl => g.old _ (hh.own _ ((hh.blk id bk' hbk).own hl))) (fun _ h => .inl h)
    · have : id = h.length := by
        have := (List.getElem?_eq_some_iff.1 hbk).1
        simp at this
        omega
      subst this
      simp at hbk
      subst hbk
      rw [← hh.n]
      exact hb
  inj i j bi bj hi hj li lj hne := by
    have key : ∀ (i : Nat) b, (h ++ [bk])[i]? = some b → (i < h.length ∧ h[i]? = some b) ∨ (i = h.length ∧ b = bk) := by
      intro i b hb
      rcases Nat.lt_or_ge i h.length with hi | hi
      · exact .inl ⟨hi, by rwa [List.getElem?_append_left hi] at hb⟩
      · have : i = h.length := by
          have := (List.getElem?_eq_some_iff.1 hb).1
          simp at this
          omega
        subst this
        simp at hb
        exact .inr ⟨rfl, hb.symm⟩
    have old : ∀ (i : Nat) b, i < h.length → h[i]? = some b → b.live = true → ((G.new w sz cap).ρ i).b = (G.ρ i).b ∧ (G.ρ i).b < w.heap.size := by
      intro i b hi hb hl
      refine ⟨by simp only [Gh.new]; rw [if_neg (by rw [hh.n]; omega)], hh.own _ ((hh.blk i b hb).own hl)⟩
    have new : ((G.new w sz cap).ρ h.length).b = w.heap.size := by simp [Gh.new, hh.n]
    rcases key i bi hi with ⟨h1, h2⟩ | ⟨rfl, rfl⟩ <;> rcases key j bj hj with ⟨h3, h4⟩ | ⟨rfl, rfl⟩
    · rw [(old i bi h1 h2 li).1, (old j bj h3 h4 lj).1]
      exact hh.inj i j bi bj h2 h4 li lj hne
    · rw [(old i bi h1 h2 li).1, new]
      have := (old i bi h1 h2 li).2
      omega
    · rw [(old j bj h3 h4 lj).1, new]
      have := (old j bj h3 h4 lj).2
      omega
    · exact absurd rfl hne
end

/-! ### A block written anew -/
/-- Block b alone is another. -/
structure Wrote (w w' : World) (b : Nat) : Prop where
  os : w'.os = w.os
  tape : w'.tape = w.tape
  output : w'.output = w.output
  drawn : w.drawn ≤ w'.drawn
  size : w'.heap.size = w.heap.size
  rest : ∀ k, k ≠ b → w'.heap[k]? = w.heap[k]?

section
variable {G : Gh} {w w' : World} {h : List Blk} {id : Nat} {bk bk' : Blk}
theorem Wrote.setRow (w : World) (g : Nat) (cs : Array Value) : Wrote w (w.setRow g cs) g := ⟨rfl, rfl, rfl, Nat.le_refl _, by simp, fun k hk => setRow_other w g k cs hk⟩

theorem Ext.wrote {b : Nat} (hb : Wrote w w' b) (ho : G.own b) : Ext G.n G w G w' where
  os := hb.os
  tape := hb.tape
  output := hb.output
  drawn := hb.drawn
  size := by rw [hb.size]; exact Nat.le_refl _
  keep k _ hk := hb.rest k (fun e => hk (e ▸ ho))
  own b h := .inl h
  rd b h := h
  rd' b h := .inl h
  ρ _ _ := rfl
  le := Nat.le_refl _
  le' := Nat.le_refl _

theorem HRel.wrote (hh : HRel G w h) (hid : h[id]? = some bk) (hl : bk.live = true) (hw : Wrote w w' (G.ρ id).b) (hb : BRel G w' id bk') : HRel G w' (h.set id bk') where
  n := by simp [hh.n]
  R b hb := by rw [hw.size]; exact hh.R b hb
  own b hb := by rw [hw.size]; exact hh.own b hb
  blk j bj hj := by
    by_cases e : id = j
    · subst e
      rw [List.getElem?_set_self (List.getElem?_eq_some_iff.1 hid).1] at hj
      injection hj with hj
      subst hj
      exact hb
    · rw [List.getElem?_set_ne e] at hj
      refine (hh.blk j bj hj).mono hh (hh.lt hj) (Ext.wrote hw ((hh.blk id bk hid).own hl)) (fun hl' => hw.rest _ (hh.inj j id bj bk hj hid hl' hl (Ne.symm e))) (fun _ h => h)
  inj i j bi bj hi hj li lj hne := by
    have key : ∀ (i : Nat) b, (h.set id bk')[i]? = some b → b.live = true → ∃ b', h[i]? = some b' ∧ b'.live = true := by
      intro i b hb hl'
      by_cases e : id = i
      · subst e; exact ⟨bk, hid, hl⟩
      · rw [List.getElem?_set_ne e] at hb; exact ⟨b, hb, hl'⟩
    obtain ⟨b1, h1, l1⟩ := key i bi hi li
    obtain ⟨b2, h2, l2⟩ := key j bj hj lj
    exact hh.inj i j b1 b2 h1 h2 l1 l2 hne

/-- A block is no longer told. -/
theorem HRel.dead (hh : HRel G w h) (id : Nat) : HRel G w (h.set id .dead) where
  n := by simp [hh.n]
  R := hh.R
  own := hh.own
  blk j bj hj := by
    by_cases e : id = j
    · subst e
      have := (List.getElem?_eq_some_iff.1 hj).1
      rw [List.length_set] at this
      rw [List.getElem?_set_self this] at hj
      injection hj with hj
      subst hj
      trivial
    · rw [List.getElem?_set_ne e] at hj
      exact hh.blk j bj hj
  inj i j bi bj hi hj li lj hne := by
    have key : ∀ (i : Nat) b, (h.set id .dead)[i]? = some b → b.live = true → h[i]? = some b := by
      intro i b hb hl'
      by_cases e : id = i
      · subst e
        have := (List.getElem?_eq_some_iff.1 hb).1
        rw [List.length_set] at this
        rw [List.getElem?_set_self this] at hb
        injection hb with hb
        subst hb
        cases hl'
      · rwa [List.getElem?_set_ne e] at hb
    exact hh.inj i j bi bj (key i bi hi li) (key j bj hj lj) li lj hne
end

/-! ### The cells of a row -/
/-- vs: the cells of the elements es, each of sz cells. -/
structure Flat (R : Nat → Prop) (w : World) (sz : Nat) (es : List (List LV)) (vs : List Value) : Prop where
  len : vs.length = es.length * sz
  lens : ∀ (i : Nat) e, es[i]? = some e → e.length = sz
  at_ : ∀ (i j : Nat) e c, es[i]? = some e → e[j]? = some c → ∃ x, vs[i * sz + j]? = some x ∧ x.oneCell' = true ∧ RRel R w c x

section
variable {R : Nat → Prop} {w : World} {sz : Nat} {es ns : List (List LV)} {vs us : List Value}
theorem Flat.nil : Flat R w sz [] [] := ⟨by simp, by simp, by simp⟩
theorem mul_lt_of {i n sz j : Nat} (hi : i < n) (hj : j < sz) : i * sz + j < n * sz := by
  have : (i + 1) * sz ≤ n * sz := Nat.mul_le_mul_right _ hi
  rw [Nat.succ_mul] at this
  omega
theorem Flat.append (h : Flat R w sz es vs) (k : Flat R w sz ns us) : Flat R w sz (es ++ ns) (vs ++ us) where
  len := by simp [h.len, k.len, Nat.add_mul]
  lens i e he := by
    rcases Nat.lt_or_ge i es.length with hi | hi
    · rw [List.getElem?_append_left hi] at he; exact h.lens i e he
    · rw [List.getElem?_append_right hi] at he; exact k.lens _ e he
  at_ i j e c he hc := by
    have hj := (List.getElem?_eq_some_iff.1 hc).1
    rcases Nat.lt_or_ge i es.length with hi | hi
    · rw [List.getElem?_append_left hi] at he
      obtain ⟨x, h1, h2⟩ := h.at_ i j e c he hc
      have hlt : i * sz + j < vs.length := (List.getElem?_eq_some_iff.1 h1).1
      exact ⟨x, by rw [List.getElem?_append_left hlt]; exact h1, h2⟩
    · rw [List.getElem?_append_right hi] at he
      obtain ⟨x, h1, h2⟩ := k.at_ _ j e c he hc
      refine ⟨x, ?_, h2⟩
      have hmul : i * sz = es.length * sz + (i - es.length) * sz := by rw [← Nat.add_mul]; congr 1; omega
      rw [List.getElem?_append_right (by rw [h.len]; omega), h.len, show i * sz + j - es.length * sz = (i - es.length) * sz + j by omega]
      exact h1
/-- Cells that lie in memory, read out. -/
theorem Flat.of_at {b o : Nat} {val : Nat → Nat → Value} (hpos : 0 < sz) (hsz : ∀ (i : Nat) e, es[i]? = some e → e.length = sz)
    (hm : ∀ (i j : Nat) e, es[i]? = some e → j < sz → At w b (o + (i * sz + j)) (val i j)) (h : ∀ (i j : Nat) e c, es[i]? = some e → e[j]? = some c → RRel R w c (val i j)) :
    ∃ vs, Flat R w sz es vs ∧ (∀ (j : Nat) v, vs[j]? = some v → w.cell? ⟨b, o + j, none⟩ = some v) ∧ ∀ v ∈ vs, v.oneCell' = true := by
  have hget : ∀ q, q < es.length * sz → ∃ e, es[q / sz]? = some e ∧ q % sz < sz := by
    intro q hq
    have h1 : q / sz < es.length := (Nat.div_lt_iff_lt_mul hpos).2 hq
    exact ⟨_, List.getElem?_eq_getElem h1, Nat.mod_lt _ hpos⟩
  have hv : ∀ (j : Nat) v, ((List.range (es.length * sz)).map fun q => val (q / sz) (q % sz))[j]? = some v → j < es.length * sz ∧ v = val (j / sz) (j % sz) := by
    intro j v hv
    rw [List.getElem?_map] at hv
    rcases Nat.lt_or_ge j (es.length * sz) with hj | hj
    · rw [List.getElem?_range hj] at hv
      simp at hv
      exact ⟨hj, hv.symm⟩
    · rw [List.getElem?_eq_none (by simpa using hj)] at hv
      cases hv
  refine ⟨(List.range (es.length * sz)).map fun q => val (q / sz) (q % sz), ⟨by simp, hsz, fun i j e c he hc => ?_⟩, fun j v hjv => ?_, fun v hvm => ?_⟩
  · have hi := (List.getElem?_eq_some_iff.1 he).1
    have hj : j < sz := by rw [← hsz i e he]; exact (List.getElem?_eq_some_iff.1 hc).1
    have hlt := mul_lt_of (sz := sz) hi hj
    refine ⟨val i j, ?_, (hm i j e he hj).2, h i j e c he hc⟩
    rw [List.getElem?_map, List.getElem?_range hlt]
    have e1 : (i * sz + j) / sz = i := by
      rw [Nat.mul_comm, Nat.mul_add_div hpos, Nat.div_eq_of_lt hj, Nat.add_zero]
    have e2 : (i * sz + j) % sz = j := by
      rw [Nat.mul_comm, Nat.mul_add_mod, Nat.mod_eq_of_lt hj]
    simp [e1, e2]
  · obtain ⟨hj, rfl⟩ := hv j v hjv
    obtain ⟨e, he, hlt⟩ := hget j hj
    have := (hm _ _ e he hlt).1
    have e1 : j / sz * sz + j % sz = j := by rw [Nat.mul_comm]; exact Nat.div_add_mod j sz
    rwa [e1] at this
  · obtain ⟨q, hq, rfl⟩ := List.mem_map.1 hvm
    have hq' : q < es.length * sz := by simpa using hq
    obtain ⟨e, he, hlt⟩ := hget q hq'
    exact (hm _ _ e he hlt).2
theorem Flat.one (h : Flat R w sz es vs) (hpos : 0 < sz) : ∀ v ∈ vs, v.oneCell' = true := by
  intro v hv
  obtain ⟨q, hq, rfl⟩ := List.mem_iff_getElem.1 hv
  have hq' : q < es.length * sz := h.len ▸ hq
  have h1 : q / sz < es.length := (Nat.div_lt_iff_lt_mul hpos).2 hq'
  have h2 := h.lens _ _ (List.getElem?_eq_getElem h1)
  have h3 : q % sz < es[q / sz].length := by rw [h2]; exact Nat.mod_lt _ hpos
  obtain ⟨x, h4, h5, _⟩ := h.at_ (q / sz) (q % sz) _ _ (List.getElem?_eq_getElem h1) (List.getElem?_eq_getElem h3)
  have e1 : q / sz * sz + q % sz = q := by rw [Nat.mul_comm]; exact Nat.div_add_mod q sz
  rw [e1, List.getElem?_eq_getElem hq] at h4
  injection h4 with h4
  rw [h4]
  exact h5
theorem Flat.mono {R' : Nat → Prop} {w' : World} (h : Flat R w sz es vs) (hR : ∀ b, R b → R' b) (hw : ∀ b, R b → w'.heap[b]? = w.heap[b]?) : Flat R' w' sz es vs :=
  ⟨h.len, h.lens, fun i j e c he hc => by obtain ⟨x, h1, h2, h3⟩ := h.at_ i j e c he hc; exact ⟨x, h1, h2, h3.mono hR hw⟩⟩
end

section
variable {G : Gh} {w : World} {id : Nat}
/-- A row's own cells. -/
theorem BRel.flat {sz : Nat} {ex : Bool} {es : List (List LV)} (hb : BRel G w id (.row sz ex es)) :
    ∃ cur e, w.heap[(G.ρ id).b]? = some (.cells cur e (0, 0)) ∧ cur.size = (G.ρ id).cap * sz ∧ Flat G.R w sz es (cur.toList.take (es.length * sz)) := by
  obtain ⟨_, _, hpos, hcap, _, _, cur, e, hcur, hsize, hsz, hat⟩ := hb
  have hle : es.length * sz ≤ cur.size := by rw [hsize]; exact Nat.mul_le_mul_right _ hcap
  refine ⟨cur, e, hcur, hsize, ⟨by simp; omega, hsz, fun i j el c he hc => ?_⟩⟩
  obtain ⟨x, h1, h2, h3⟩ := hat i j el c he hc
  refine ⟨x, ?_, h2, h3⟩
  have hlt := mul_lt_of (sz := sz) (List.getElem?_eq_some_iff.1 he).1 (by rw [← hsz i el he]; exact (List.getElem?_eq_some_iff.1 hc).1)
  rw [List.getElem?_take, if_pos hlt]
  simpa using h1
theorem BRel.of_flat {sz : Nat} {ex : Bool} {es : List (List LV)} {cur : Array Value} {e : TypeId} {vs : List Value} (ho : G.own (G.ρ id).b) (hsz : (G.ρ id).sz = sz) (hpos : 0 < sz)
    (hcap : es.length ≤ (G.ρ id).cap) (hex : ex = true → es.length = (G.ρ id).cap) (hmax : (G.ρ id).cap ≤ 9223372036854775807) (hcur : w.heap[(G.ρ id).b]? = some (.cells cur e (0, 0))) (hsize : cur.size = (G.ρ id).cap * sz)
    (hvs : cur.toList.take (es.length * sz) = vs) (hf : Flat G.R w sz es vs) : BRel G w id (.row sz ex es) := by
  refine ⟨ho, hsz, hpos, hcap, hex, hmax, cur, e, hcur, hsize, hf.lens, fun i j el c he hc => ?_⟩
  obtain ⟨x, h1, h2, h3⟩ := hf.at_ i j el c he hc
  refine ⟨x, ?_, h2, h3⟩
  have hlt := mul_lt_of (sz := sz) (List.getElem?_eq_some_iff.1 he).1 (by rw [← hf.lens i el he]; exact (List.getElem?_eq_some_iff.1 hc).1)
  rw [← hvs, List.getElem?_take, if_pos hlt] at h1
  simpa using h1

/-- What is read of a slice. -/
theorem elemsK_ok {h : List Blk} {x : LV} {xv : Value} {k : List (List LV) → Prop} (hk : elemsK h x k) (hh : HRel G w h) (hx : Rel G w x xv) :
    ∃ es, k es ∧ ((es = [] ∧ ∃ A c, xv = .slice A 0 c) ∨
      ∃ (b o c sz : Nat) (val : Nat → Nat → Value), xv = .slice (some ⟨b, o, none⟩) es.length c ∧ (∀ (i : Nat) e, es[i]? = some e → e.length = sz) ∧
        (∀ (i j : Nat) e, es[i]? = some e → j < sz → At w b (o + (i * sz + j)) (val i j)) ∧ ∀ (i j : Nat) e c, es[i]? = some e → e[j]? = some c → RRel G.R w c (val i j)) := by
  unfold elemsK at hk
  split at hk
  · rename_i es
    refine ⟨es, hk, ?_⟩
    have hr := rel_rd hx
    cases hr with
    | rd _ b o cap sz val hR hc hsz hm hh => exact .inr ⟨b, o, cap, sz, val, rfl, hsz, hm, hh⟩
    | nil a cap => exact .inl ⟨rfl, a, cap, rfl⟩
  · obtain rfl := rel_v hx
    exact ⟨[], hk, .inl ⟨rfl, none, 0, rfl⟩⟩
  · rename_i id off len cap
    obtain ⟨hn, cp, rfl, h1, h2, h3⟩ := rel_sl hx
    obtain ⟨b, hb, hk⟩ := getK_iff.1 hk
    cases b with
    | row sz ex es =>
      obtain ⟨hle, hk⟩ := hk
      have hbr := hh.blk id _ hb
      obtain ⟨_, hsz, hpos, hcap, _, _, cur, e, hcur, hsize, hlen, hat⟩ := hbr
      have hl : ((es.drop off).take len).length = len := by simp; omega
      have hget : ∀ (i : Nat) el, ((es.drop off).take len)[i]? = some el → i < len ∧ es[off + i]? = some el := by
        intro i el hel
        rw [List.getElem?_take] at hel
        split at hel
        · rename_i hi; rw [List.getElem?_drop] at hel; exact ⟨hi, hel⟩
        · cases hel
      refine ⟨_, hk, .inr ⟨(G.ρ id).b, off * (G.ρ id).sz, cp, sz, fun i j => cur.getD ((off + i) * sz + j) undef, by rw [hl], fun i el hel => hlen _ el (hget i el hel).2, fun i j el hel hj => ?_, fun i j el c hel hc => ?_⟩⟩
      · obtain ⟨hi, hel⟩ := hget i el hel
        have hlen' := hlen _ el hel
        obtain ⟨x, h4, h5, _⟩ := hat (off + i) j el el[j] hel (List.getElem?_eq_getElem (by omega))
        have e1 : off * (G.ρ id).sz + (i * sz + j) = (off + i) * sz + j := by rw [hsz, Nat.add_mul]; omega
        refine ⟨?_, ?_⟩
        · rw [e1, cell_of_row w _ _ cur e _ hcur]
          simp [Array.getD_eq_getD_getElem?, h4]
        · simp [Array.getD_eq_getD_getElem?, h4, h5]
      · obtain ⟨hi, hel⟩ := hget i el hel
        obtain ⟨x, h4, _, h6⟩ := hat (off + i) j el c hel hc
        simpa [Array.getD_eq_getD_getElem?, h4] using h6
    | box cs => exact hk.elim
    | map ag kn m => exact hk.elim
    | dead => exact hk.elim
  · exact hk.elim
end
end E
end Go.Proofs.YtjhognibibmeiaaGreatDoor
