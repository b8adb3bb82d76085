/-
  THE EVALUATOR, second part: what an abstract value and an abstract heap say of a world.
-/
import Derived.Test.YtjhognibibmeiaaGreatDoorEa
set_option linter.unusedVariables false
namespace Go.Proofs.YtjhognibibmeiaaGreatDoor
namespace E
open Go Go.RowKit

/-! ### Lists in the passing style: what they say -/
section
variable {α : Type}
theorem getK_iff {xs : List α} {n : Nat} {k : α → Prop} : getK xs n k ↔ ∃ x, xs[n]? = some x ∧ k x := by
  induction xs generalizing n with
  | nil => simp [getK]
  | cons y ys ih => cases n with
    | zero => simp [getK]
    | succ n => simp [getK, ih]
theorem setK_iff {xs : List α} {n : Nat} {y : α} {k : List α → Prop} : setK xs n y k ↔ n < xs.length ∧ k (xs.set n y) := by
  induction xs generalizing n k with
  | nil => simp [setK]
  | cons z zs ih => cases n with
    | zero => simp [setK]
    | succ n => simp [setK, ih]
theorem snocK_iff {xs : List α} {y : α} {k : Nat → List α → Prop} : snocK xs y k ↔ k xs.length (xs ++ [y]) := by
  induction xs generalizing k with
  | nil => simp [snocK]
  | cons z zs ih => simp [snocK, ih]
theorem dropK_iff {xs : List α} {n : Nat} {k : List α → Prop} : dropK xs n k ↔ n ≤ xs.length ∧ k (xs.drop n) := by
  induction xs generalizing n with
  | nil => cases n <;> simp [dropK]
  | cons z zs ih => cases n with
    | zero => simp [dropK]
    | succ n => simp [dropK, ih]
theorem takeK_iff {xs : List α} {n : Nat} {k : List α → Prop} : takeK xs n k ↔ n ≤ xs.length ∧ k (xs.take n) := by
  induction xs generalizing n k with
  | nil => cases n <;> simp [takeK]
  | cons z zs ih => cases n with
    | zero => simp [takeK]
    | succ n => simp [takeK, ih]
theorem segK_iff {xs : List α} {off n : Nat} {k : List α → Prop} : segK xs off n k ↔ off + n ≤ xs.length ∧ k ((xs.drop off).take n) := by
  simp only [segK, dropK_iff, takeK_iff, List.length_drop]
  constructor
  · rintro ⟨h1, h2, h3⟩; exact ⟨by omega, h3⟩
  · rintro ⟨h1, h3⟩; exact ⟨by omega, by omega, h3⟩
theorem appK_iff {xs ys : List α} {k : List α → Prop} : appK xs ys k ↔ k (xs ++ ys) := by
  induction xs generalizing k with
  | nil => simp [appK]
  | cons z zs ih => simp [appK, ih]
theorem overK_iff {xs ys : List α} {k : List α → Prop} : overK xs ys k ↔ ys.length ≤ xs.length ∧ k (ys ++ xs.drop ys.length) := by
  induction ys generalizing xs k with
  | nil => cases xs <;> simp [overK]
  | cons z zs ih => cases xs with
    | nil => simp [overK]
    | cons x xs => simp [overK, ih]
theorem spliceK_iff {xs : List α} {n : Nat} {ys : List α} {k : List α → Prop} : spliceK xs n ys k ↔ n + ys.length ≤ xs.length ∧ k (xs.take n ++ ys ++ xs.drop (n + ys.length)) := by
  induction n generalizing xs k with
  | zero => cases xs <;> simp [spliceK, overK_iff]
  | succ n ih => cases xs with
    | nil => simp [spliceK]
    | cons x xs =>
      simp only [spliceK, ih, List.length_cons, List.take_succ_cons, List.cons_append]
      constructor
      · rintro ⟨h1, h2⟩
        refine ⟨by omega, ?_⟩
        rw [show n + 1 + ys.length = (n + ys.length) + 1 by omega, List.drop_succ_cons]
        exact h2
      · rintro ⟨h1, h2⟩
        refine ⟨by omega, ?_⟩
        rw [show n + 1 + ys.length = (n + ys.length) + 1 by omega, List.drop_succ_cons] at h2
        exact h2
end

/-! ### What a value that names no block of the call's own says -/

/-- The cell of an address n cells further. -/
def At (w : World) (b o : Nat) (x : Value) : Prop := w.cell? ⟨b, o, none⟩ = some x ∧ x.oneCell' = true

/-- R: the blocks that may be read for good. -/
inductive RRel (R : Nat → Prop) (w : World) : LV → Value → Prop
  | v (x : Value) : RRel R w (.v x) x
  | agg (cs : List LV) (vs : List Value) (hl : cs.length = vs.length) (h : ∀ (i : Nat) c x, cs[i]? = some c → vs[i]? = some x → RRel R w c x) : RRel R w (.agg cs) (.agg vs.toArray)
  | tup (cs : List LV) (vs : List Value) (hl : cs.length = vs.length) (h : ∀ (i : Nat) c x, cs[i]? = some c → vs[i]? = some x → RRel R w c x) : RRel R w (.tup cs) (.tuple vs.toArray)
  | rd (es : List (List LV)) (b o cap sz : Nat) (val : Nat → Nat → Value) (hR : R b) (hc : es.length ≤ cap) (hsz : ∀ (i : Nat) e, es[i]? = some e → e.length = sz)
      (hm : ∀ (i j : Nat) e, es[i]? = some e → j < sz → At w b (o + (i * sz + j)) (val i j))
      (h : ∀ (i j : Nat) e c, es[i]? = some e → e[j]? = some c → RRel R w c (val i j)) : RRel R w (.rd es) (.slice (some ⟨b, o, none⟩) es.length cap)
  | nil (a : Option Addr) (cap : Nat) : RRel R w (.rd []) (.slice a 0 cap)
  | clo (f : Nat) : RRel R w (.clo f []) (.func (.func f) #[] #[])

theorem RRel.mono {R R' : Nat → Prop} {w w' : World} {l : LV} {x : Value} (h : RRel R w l x) (hR : ∀ b, R b → R' b) (hw : ∀ b, R b → w'.heap[b]? = w.heap[b]?) : RRel R' w' l x := by
  induction h with
  | v x => exact .v x
  | agg cs vs hl _ ih => exact .agg cs vs hl ih
  | tup cs vs hl _ ih => exact .tup cs vs hl ih
  | rd es b o cap sz val hb hc hsz hm _ ih =>
    refine .rd es b o cap sz val (hR b hb) hc hsz (fun i j e he hj => ?_) ih
    obtain ⟨h1, h2⟩ := hm i j e he hj
    exact ⟨(World.cell?_of_block (a := ⟨b, o + (i * sz + j), none⟩) (hw b hb)).trans h1, h2⟩
  | nil a cap => exact .nil a cap
  | clo f => exact .clo f

/-! ### What a value says beside the call's own blocks -/

/-- Where a block of the call's own lies: its number, an element's cells, how many elements it has room for. -/
structure Id where
  b : Nat
  sz : Nat
  cap : Nat

/-- The other side of an abstract state: ρ: the blocks; n: how many there are; R: what may be read for good; own: what the call may write. -/
structure Gh where
  ρ : Nat → Id
  n : Nat
  R : Nat → Prop
  own : Nat → Prop

inductive Rel (G : Gh) (w : World) : LV → Value → Prop
  | r (l : LV) (x : Value) (h : RRel G.R w l x) : Rel G w l x
  | agg (cs : List LV) (vs : List Value) (hl : cs.length = vs.length) (h : ∀ (i : Nat) c x, cs[i]? = some c → vs[i]? = some x → Rel G w c x) : Rel G w (.agg cs) (.agg vs.toArray)
  | tup (cs : List LV) (vs : List Value) (hl : cs.length = vs.length) (h : ∀ (i : Nat) c x, cs[i]? = some c → vs[i]? = some x → Rel G w c x) : Rel G w (.tup cs) (.tuple vs.toArray)
  | sl (id off len : Nat) (cap : Option Nat) (cp : Nat) (hn : id < G.n) (h1 : len ≤ cp) (h2 : off + cp ≤ (G.ρ id).cap) (h3 : ∀ c, cap = some c → cp = c) :
      Rel G w (.sl id off len cap) (.slice (some ⟨(G.ρ id).b, off * (G.ρ id).sz, none⟩) len cp)
  | ptr (id i sub : Nat) (hn : id < G.n) : Rel G w (.ptr id i sub) (.pointer (some ⟨(G.ρ id).b, i * (G.ρ id).sz + sub, none⟩))
  | eptr (e : List LV) (sub b o : Nat) (val : Nat → Value) (hR : G.R b) (hm : ∀ j, j < e.length → At w b (o + j) (val j)) (h : ∀ (j : Nat) c, e[j]? = some c → RRel G.R w c (val j)) :
      Rel G w (.eptr e sub) (.pointer (some ⟨b, o + sub, none⟩))
  | mp (id : Nat) (hn : id < G.n) : Rel G w (.mp id) (.map (some (G.ρ id).b))
  | clo (f : Nat) (cs : List LV) (vs : List Value) (hl : cs.length = vs.length) (h : ∀ (i : Nat) c x, cs[i]? = some c → vs[i]? = some x → Rel G w c x) : Rel G w (.clo f cs) (.func (.func f) #[] vs.toArray)
  | unk (x : Value) : Rel G w .unk x

theorem Rel.mono {G G' : Gh} {w w' : World} {l : LV} {x : Value} (h : Rel G w l x) (hn : G.n ≤ G'.n) (hρ : ∀ i, i < G.n → G'.ρ i = G.ρ i) (hR : ∀ b, G.R b → G'.R b)
    (hw : ∀ b, G.R b → w'.heap[b]? = w.heap[b]?) : Rel G' w' l x := by
  induction h with
  | r l x h => exact .r l x (h.mono hR hw)
  | agg cs vs hl _ ih => exact .agg cs vs hl ih
  | tup cs vs hl _ ih => exact .tup cs vs hl ih
  | sl id off len cap cp h0 h1 h2 h3 =>
    rw [← hρ id h0]
    exact .sl id off len cap cp (Nat.lt_of_lt_of_le h0 hn) h1 (by rw [hρ id h0]; exact h2) h3
  | ptr id i sub h0 =>
    rw [← hρ id h0]
    exact .ptr id i sub (Nat.lt_of_lt_of_le h0 hn)
  | eptr e sub b o val hb hm hh =>
    refine .eptr e sub b o val (hR b hb) (fun j hj => ?_) (fun j c hc => (hh j c hc).mono hR hw)
    obtain ⟨h1, h2⟩ := hm j hj
    exact ⟨(World.cell?_of_block (a := ⟨b, o + j, none⟩) (hw b hb)).trans h1, h2⟩
  | mp id h0 =>
    rw [← hρ id h0]
    exact .mp id (Nat.lt_of_lt_of_le h0 hn)
  | clo f cs vs hl _ ih => exact .clo f cs vs hl ih
  | unk x => exact .unk x

/-- Values side by side. -/
def Rels (G : Gh) (w : World) (ls : List LV) (xs : List Value) : Prop := ls.length = xs.length ∧ ∀ (i : Nat) l x, ls[i]? = some l → xs[i]? = some x → Rel G w l x
def RRels (R : Nat → Prop) (w : World) (ls : List LV) (xs : List Value) : Prop := ls.length = xs.length ∧ ∀ (i : Nat) l x, ls[i]? = some l → xs[i]? = some x → RRel R w l x

/-! ### The heap -/
def keyVal (ag : Bool) (ns : List Int) : Value := bif ag then .agg (ns.map fun n => Value.int .i64 n).toArray else .int .i64 (ns.headD 0)

def BRel (G : Gh) (w : World) (id : Nat) : Blk → Prop
  | .dead => True
  | .row sz ex es => G.own (G.ρ id).b ∧ (G.ρ id).sz = sz ∧ 0 < sz ∧ es.length ≤ (G.ρ id).cap ∧ (ex = true → es.length = (G.ρ id).cap) ∧ (G.ρ id).cap ≤ 9223372036854775807 ∧
      ∃ cur e, w.heap[(G.ρ id).b]? = some (.cells cur e (0, 0)) ∧ cur.size = (G.ρ id).cap * sz ∧ (∀ (i : Nat) e, es[i]? = some e → e.length = sz) ∧
        ∀ (i j : Nat) e c, es[i]? = some e → e[j]? = some c → ∃ x, cur[i * sz + j]? = some x ∧ x.oneCell' = true ∧ RRel G.R w c x
  | .box cs => G.own (G.ρ id).b ∧ (G.ρ id).sz = cs.length ∧
      ∃ cur e, w.heap[(G.ρ id).b]? = some (.cells cur e (0, 0)) ∧ cur.size = cs.length ∧
        ∀ (j : Nat) c, cs[j]? = some c → ∃ x, cur[j]? = some x ∧ x.oneCell' = true ∧ Rel G w c x
  | .map ag kn m => G.own (G.ρ id).b ∧ ∃ es clock, w.heap[(G.ρ id).b]? = some (.map es clock) ∧ es.size = m.length ∧
      ∀ (i : Nat) key v, m[i]? = some (key, v) → key.length = kn ∧ ∃ en, es[i]? = some en ∧ en.key = keyVal ag key ∧ Rel G w v en.val

def Blk.live : Blk → Bool
  | .dead => false
  | _ => true

structure HRel (G : Gh) (w : World) (h : List Blk) : Prop where
  n : G.n = h.length
  R : ∀ b, G.R b → b < w.heap.size ∧ ¬ G.own b
  own : ∀ b, G.own b → b < w.heap.size
  blk : ∀ (id : Nat) bk, h[id]? = some bk → BRel G w id bk
  inj : ∀ (i j : Nat) bi bj, h[i]? = some bi → h[j]? = some bj → bi.live = true → bj.live = true → i ≠ j → (G.ρ i).b ≠ (G.ρ j).b

/-! ### From one world to the next. m: how many of the blocks keep their names -/
structure Ext (m : Nat) (G : Gh) (w : World) (G' : Gh) (w' : World) : Prop where
  os : w'.os = w.os
  tape : w'.tape = w.tape
  output : w'.output = w.output
  drawn : w.drawn ≤ w'.drawn
  size : w.heap.size ≤ w'.heap.size
  keep : ∀ b, b < w.heap.size → ¬ G.own b → w'.heap[b]? = w.heap[b]?
  own : ∀ b, G'.own b → G.own b ∨ w.heap.size ≤ b
  rd : ∀ b, G.R b → G'.R b
  rd' : ∀ b, G'.R b → G.R b ∨ G.own b ∨ w.heap.size ≤ b
  ρ : ∀ i, i < m → G'.ρ i = G.ρ i
  le : m ≤ G.n
  le' : m ≤ G'.n

theorem Ext.refl {m : Nat} {G : Gh} {w : World} (h : m ≤ G.n) : Ext m G w G w := ⟨rfl, rfl, rfl, Nat.le_refl _, Nat.le_refl _, fun _ _ _ => rfl, fun _ h => .inl h, fun _ h => h, fun _ h => .inl h, fun _ _ => rfl, h, h⟩

theorem Ext.trans {m : Nat} {G G1 G2 : Gh} {w w1 w2 : World} (h : Ext m G w G1 w1) (k : Ext m G1 w1 G2 w2) : Ext m G w G2 w2 where
  os := k.os.trans h.os
  tape := k.tape.trans h.tape
  output := k.output.trans h.output
  drawn := Nat.le_trans h.drawn k.drawn
  size := Nat.le_trans h.size k.size
  keep b hb ho := (k.keep b (Nat.lt_of_lt_of_le hb h.size) (fun ho1 => by
    rcases h.own b ho1 with h1 | h1
    · exact ho h1
    · omega)).trans (h.keep b hb ho)
  own b hb := by
    rcases k.own b hb with h1 | h1
    · exact h.own b h1
    · exact .inr (Nat.le_trans h.size h1)
  rd b hb := k.rd b (h.rd b hb)
  rd' b hb := by
    rcases k.rd' b hb with h1 | h1 | h1
    · exact h.rd' b h1
    · rcases h.own b h1 with h2 | h2
      · exact .inr (.inl h2)
      · exact .inr (.inr h2)
    · exact .inr (.inr (Nat.le_trans h.size h1))
  ρ i hi := (k.ρ i hi).trans (h.ρ i hi)
  le := h.le
  le' := k.le'

theorem Ext.less {m m' : Nat} {G G' : Gh} {w w' : World} (h : Ext m G w G' w') (hm : m' ≤ m) : Ext m' G w G' w' :=
  ⟨h.os, h.tape, h.output, h.drawn, h.size, h.keep, h.own, h.rd, h.rd', fun i hi => h.ρ i (Nat.lt_of_lt_of_le hi hm), Nat.le_trans hm h.le, Nat.le_trans hm h.le'⟩

/-- What is read for good reads on. -/
theorem Ext.keepR {m : Nat} {G G' : Gh} {w w' : World} {hp : List Blk} (h : Ext m G w G' w') (hh : HRel G w hp) : ∀ b, G.R b → w'.heap[b]? = w.heap[b]? :=
  fun b hb => h.keep b (hh.R b hb).1 (hh.R b hb).2

theorem Rel.ext {G G' : Gh} {w w' : World} {hp : List Blk} {l : LV} {x : Value} (h : Rel G w l x) (hh : HRel G w hp) (he : Ext G.n G w G' w') : Rel G' w' l x :=
  h.mono he.le' he.ρ he.rd (he.keepR hh)
theorem RRel.ext {m : Nat} {G G' : Gh} {w w' : World} {hp : List Blk} {l : LV} {x : Value} (h : RRel G.R w l x) (hh : HRel G w hp) (he : Ext m G w G' w') : RRel G'.R w' l x :=
  h.mono he.rd (he.keepR hh)
theorem Rels.ext {G G' : Gh} {w w' : World} {hp : List Blk} {ls : List LV} {xs : List Value} (h : Rels G w ls xs) (hh : HRel G w hp) (he : Ext G.n G w G' w') : Rels G' w' ls xs :=
  ⟨h.1, fun i l x h1 h2 => (h.2 i l x h1 h2).ext hh he⟩

/-! ### A state beside an activation -/
structure SRel (G : Gh) (s : St) (a : Act) (w : World) : Prop where
  h : HRel G w s.h
  t : Rels G w s.t a.tmps.toList

end E
end Go.Proofs.YtjhognibibmeiaaGreatDoor
