/-
  THE EVALUATOR, fifteenth part: what an operation does is one thing (a value and a heap), and what it looks at.
-/
import Derived.Test.YtjhognibibmeiaaGreatDoorEn
import Derived.Orders
set_option linter.unusedVariables false
namespace Go.Proofs.YtjhognibibmeiaaGreatDoor
namespace E
open Go Go.RowKit

def Fun1 {α : Type} (F : (α → Prop) → Prop) : Prop := ∀ k, F k → ∃ a, k a ∧ ∀ k' : α → Prop, k' a → F k'
section
variable {α β : Type} {F G : (α → Prop) → Prop}
theorem Fun1.pure (a : α) : Fun1 (fun k : α → Prop => k a) := fun k h => ⟨a, h, fun _ h => h⟩
theorem Fun1.false : Fun1 (fun _ : α → Prop => False) := fun _ h => h.elim
theorem Fun1.bind {G : α → (β → Prop) → Prop} (hF : Fun1 F) (hG : ∀ a, Fun1 (G a)) : Fun1 (fun k => F fun a => G a k) := by
  intro k h
  obtain ⟨a, h1, h2⟩ := hF _ h
  obtain ⟨b, h3, h4⟩ := hG a _ h1
  exact ⟨b, h3, fun k' hk => h2 _ (h4 k' hk)⟩
theorem Fun1.and {p : Prop} (hF : Fun1 F) : Fun1 (fun k => p ∧ F k) := by
  intro k ⟨hp, h⟩
  obtain ⟨a, h1, h2⟩ := hF _ h
  exact ⟨a, h1, fun k' hk => ⟨hp, h2 k' hk⟩⟩
theorem Fun1.iff (h : ∀ k, F k ↔ G k) (hG : Fun1 G) : Fun1 F := by
  intro k hk
  obtain ⟨a, h1, h2⟩ := hG k ((h k).1 hk)
  exact ⟨a, h1, fun k' hk' => (h k').2 (h2 k' hk')⟩
theorem Fun1.pick {b : Bool} (hF : Fun1 F) (hG : Fun1 G) : Fun1 (fun k => pickB b (F k) (G k)) := by
  cases b
  · exact hG
  · exact hF
theorem Fun1.cond {v : LV} (hF : Fun1 F) (hG : Fun1 G) : Fun1 (fun k => condB v (F k) (G k)) := by
  intro k h
  unfold condB at h
  split at h
  · exact hF k h
  · exact hG k h
  · exact h.elim
theorem Fun1.eq (h : F = G) (hG : Fun1 G) : Fun1 F := h ▸ hG
theorem Fun1.at (b : Bool) (h1 : b = .true → Fun1 F) (h2 : b = .false → Fun1 F) : Fun1 F := by
  cases b
  · exact h2 rfl
  · exact h1 rfl
theorem Fun1.idx {i n : Int} (hF : Fun1 F) : Fun1 (fun k => idxB i n (F k)) :=
  Fun1.iff (G := fun k => (0 ≤ i ∧ i < n) ∧ F k) (fun k => by rw [idxB_iff, and_assoc]) hF.and
theorem Fun1.nn {i : Int} (hF : Fun1 F) : Fun1 (fun k => nnB i (F k)) :=
  Fun1.iff (G := fun k => 0 ≤ i ∧ F k) (fun k => by rw [nnB_iff]) hF.and
theorem Fun1.nz {i : Int} (hF : Fun1 F) : Fun1 (fun k => nzB i (F k)) :=
  Fun1.iff (G := fun k => i ≠ 0 ∧ F k) (fun k => by rw [nzB_iff]) hF.and
theorem Fun1.len {m n : Nat} (hF : Fun1 F) : Fun1 (fun k => lenB m n (F k)) :=
  Fun1.iff (G := fun k => m = n ∧ F k) (fun k => by rw [lenB_iff]) hF.and
theorem Fun1.elt {xs : List α} {n : Nat} : Fun1 (eltK xs n) := by
  intro k h
  obtain ⟨x, h1, h2⟩ := eltK_iff.1 h
  exact ⟨x, h2, fun k' hk => eltK_iff.2 ⟨x, h1, hk⟩⟩
theorem Fun1.get {xs : List α} {n : Nat} : Fun1 (getK xs n) := by
  intro k h
  obtain ⟨x, h1, h2⟩ := getK_iff.1 h
  exact ⟨x, h2, fun k' hk => getK_iff.2 ⟨x, h1, hk⟩⟩
theorem Fun1.set {xs : List α} {n : Nat} {y : α} : Fun1 (setK xs n y) := by
  intro k h
  obtain ⟨h1, h2⟩ := setK_iff.1 h
  exact ⟨_, h2, fun k' hk => setK_iff.2 ⟨h1, hk⟩⟩
theorem Fun1.drop : ∀ {n : Nat} {xs : List α}, Fun1 (dropK xs n)
  | 0, xs => by
    have : dropK xs 0 = fun k => k xs := by funext k; cases xs <;> rfl
    rw [this]; exact Fun1.pure xs
  | n + 1, [] => Fun1.false
  | n + 1, _ :: xs => Fun1.drop (n := n) (xs := xs)
theorem Fun1.take : ∀ {n : Nat} {xs : List α}, Fun1 (takeK xs n)
  | 0, xs => by
    have : takeK xs 0 = fun k => k [] := by funext k; cases xs <;> rfl
    rw [this]; exact Fun1.pure []
  | n + 1, [] => Fun1.false
  | n + 1, x :: xs => by
    show Fun1 (fun k => takeK xs n fun r => k (x :: r))
    exact Fun1.bind (Fun1.take (n := n) (xs := xs)) fun r => Fun1.pure (x :: r)
theorem Fun1.seg {xs : List α} {a n : Nat} : Fun1 (segK xs a n) := by
  show Fun1 (fun k => dropK xs a fun r => takeK r n k)
  exact Fun1.bind Fun1.drop fun _ => Fun1.take
theorem Fun1.app : ∀ {xs ys : List α}, Fun1 (appK xs ys)
  | [], ys => Fun1.pure ys
  | x :: xs, ys => by
    show Fun1 (fun k => appK xs ys fun r => k (x :: r))
    exact Fun1.bind (Fun1.app (xs := xs) (ys := ys)) fun r => Fun1.pure (x :: r)
theorem Fun1.over : ∀ {ys xs : List α}, Fun1 (overK xs ys)
  | [], xs => by
    have : overK xs [] = fun k => k xs := by funext k; cases xs <;> rfl
    rw [this]; exact Fun1.pure xs
  | _ :: _, [] => Fun1.false
  | y :: ys, _ :: xs => by
    show Fun1 (fun k => overK xs ys fun r => k (y :: r))
    exact Fun1.bind (Fun1.over (xs := xs) (ys := ys)) fun r => Fun1.pure (y :: r)
theorem Fun1.splice : ∀ {n : Nat} {xs ys : List α}, Fun1 (spliceK xs n ys)
  | 0, xs, ys => by
    have : spliceK xs 0 ys = overK xs ys := by funext k; cases xs <;> rfl
    rw [this]; exact Fun1.over
  | n + 1, [], ys => Fun1.false
  | n + 1, x :: xs, ys => by
    show Fun1 (fun k => spliceK xs n ys fun r => k (x :: r))
    exact Fun1.bind (Fun1.splice (n := n) (xs := xs) (ys := ys)) fun r => Fun1.pure (x :: r)
end

section
variable {X : Ctx} {t : List LV} {h : List Blk}
theorem Fun1.opd {o : Operand} : Fun1 (opdK X t o) := by
  cases o with
  | tmp i => exact Fun1.get
  | const x => exact Fun1.pure _
  | func f => exact Fun1.pure _
  | global g =>
    cases hg : X.glob g with
    | none => exact Fun1.eq (by funext k; simp only [opdK, hg]) Fun1.false
    | some cs => exact Fun1.eq (G := fun k => k (.eptr (cs.map .v) 0)) (by funext k; simp only [opdK, hg]) (Fun1.pure _)
theorem Fun1.opds : ∀ {os : List Operand}, Fun1 (opdsK X t os)
  | [] => Fun1.pure []
  | o :: os => by
    show Fun1 (fun k => opdK X t o fun v => opdsK X t os fun vs => k (v :: vs))
    exact Fun1.bind Fun1.opd fun v => Fun1.bind (Fun1.opds (os := os)) fun vs => Fun1.pure (v :: vs)
theorem Fun1.parts : ∀ {os : List (Nat × Operand)}, Fun1 (opVal.partsK X t os)
  | [] => Fun1.pure []
  | (i, o) :: os => by
    show Fun1 (fun k => opdK X t o fun v => opVal.partsK X t os fun vs => k ((i, v) :: vs))
    exact Fun1.bind Fun1.opd fun v => Fun1.bind (Fun1.parts (os := os)) fun vs => Fun1.pure ((i, v) :: vs)
theorem Fun1.cells {x : LV} : Fun1 (cellsK x) := by
  intro k hk
  unfold cellsK at hk
  split at hk
  · rename_i cs
    split at hk
    · rename_i h
      exact ⟨cs, hk, fun k' h' => by unfold cellsK; simp only [h]; exact h'⟩
    · exact hk.elim
  · rename_i hne
    split at hk
    · rename_i h
      refine ⟨_, hk, fun k' h' => ?_⟩
      unfold cellsK
      split
      · exact absurd rfl (hne _)
      · simp only [h]; exact h'
    · exact hk.elim
theorem Fun1.clean : ∀ {xs : List LV}, Fun1 (cleanK xs)
  | [] => Fun1.pure []
  | .v x :: r => by
    show Fun1 (fun k => cleanK r fun s => k (.v x :: s))
    exact Fun1.bind (Fun1.clean (xs := r)) fun s => Fun1.pure (.v x :: s)
  | .rd x :: r => by
    show Fun1 (fun k => cleanK r fun s => k (.rd x :: s))
    exact Fun1.bind (Fun1.clean (xs := r)) fun s => Fun1.pure (.rd x :: s)
  | .agg _ :: _ => Fun1.false
  | .tup _ :: _ => Fun1.false
  | .sl .. :: _ => Fun1.false
  | .ptr .. :: _ => Fun1.false
  | .eptr .. :: _ => Fun1.false
  | .mp _ :: _ => Fun1.false
  | .clo .. :: _ => Fun1.false
  | .unk :: _ => Fun1.false
theorem Fun1.td {n : Nat} : Fun1 (tdK X n) := by
  intro k hk
  obtain ⟨d, h1, h2⟩ := tdK_iff.1 hk
  exact ⟨d, h2, fun k' h' => tdK_iff.2 ⟨d, h1, h'⟩⟩
theorem Fun1.part {d : TD} {cs : List LV} {sub : Nat} : Fun1 (partK d cs sub) := by
  cases ha : d.isAgg with
  | false =>
    have : partK d cs sub = getK cs sub := by funext k; unfold partK; rw [ha]
    rw [this]; exact Fun1.get
  | true =>
    have : partK d cs sub = fun k => segK cs sub d.sz fun s => k (LV.agg s) := by funext k; unfold partK; rw [ha]
    rw [this]; exact Fun1.bind Fun1.seg fun s => Fun1.pure (LV.agg s)
theorem Fun1.bool {b : Bool} : Fun1 (boolK b) := Fun1.pick (Fun1.pure _) (Fun1.pure _)

theorem Fun1.int {op : BinOp} {ka kb : IntKind} {a b : Int} : Fun1 (intK op ka a kb b) := by
  cases hb : decide (b < 0) <;> cases hk : decide (ka = kb) <;> cases op <;> intro k h <;> simp only [intK, hb, hk] at h ⊢
  all_goals first
    | exact h.elim
    | exact ⟨_, h, fun _ h' => h'⟩
    | exact Fun1.bool k h
    | exact Fun1.nz (Fun1.pure _) k h

theorem Fun1.flt {op : BinOp} {f : FloatKind} {a b : Nat} : Fun1 (fltK op f a b) := by
  intro k hk
  unfold fltK at hk
  split at hk
  · rename_i r hr
    exact ⟨r, hk, fun k' h' => by unfold fltK; rw [hr]; exact h'⟩
  · exact hk.elim
theorem Fun1.eqC : ∀ {xs ys : List LV}, Fun1 (eqCells xs ys) := by
  intro xs
  induction xs with
  | nil =>
    intro ys
    cases ys with
    | nil => exact Fun1.pure true
    | cons y ys => intro k hk; simp [eqCells] at hk
  | cons x xs ih =>
    intro ys k hk
    unfold eqCells at hk
    split at hk
    · rename_i h1; cases h1
    · rename_i kk a r b s h1
      injection h1 with h1 h1'
      subst h1 h1'
      obtain ⟨c, h3, h4⟩ := ih _ hk
      exact ⟨_, h3, fun k' h' => by unfold eqCells; exact h4 _ h'⟩
    · exact hk.elim

def eqPart (op : BinOp) (xs ys : List LV) (k : LV → Prop) : Prop :=
  match op with
  | .eql => eqCells xs ys fun c => boolK c k
  | .neq => eqCells xs ys fun c => boolK (!c) k
  | _ => False

theorem Fun1.bin {op : BinOp} {ty : Nat} {x y : LV} : Fun1 (binK X op ty x y) := by
  intro k hk
  unfold binK at hk
  split at hk
  · exact Fun1.int k hk
  · rename_i ka a kb b
    have hF : Fun1 (binK X op ty (.v (.float ka a)) (.v (.float kb b))) := by
      cases hkk : decide (ka = kb) <;> cases op <;> intro k h <;> simp only [binK, hkk] at h ⊢
      all_goals first
        | exact h.elim
        | exact Fun1.bool k h
        | exact (Fun1.bind (F := fltK _ ka a b) (G := fun r k => k (.v (.float ka r))) Fun1.flt fun r => Fun1.pure _) k h
    exact hF k hk
  · rename_i ka a b kb c d
    have hF : Fun1 (binK X op ty (.v (.complex ka a b)) (.v (.complex kb c d))) := by
      cases hkk : decide (ka = kb) <;> cases op <;> intro k h <;> simp only [binK, hkk] at h ⊢
      all_goals first
        | exact h.elim
        | exact Fun1.bool k h
        | exact (Fun1.bind (F := fltK _ ka a c) (G := fun r k => fltK _ ka b d fun s => k (.v (.complex ka r s))) Fun1.flt fun r => Fun1.bind Fun1.flt fun s => Fun1.pure _) k h
    exact hF k hk
  · rename_i xs ys
    have hk0 := hk
    obtain ⟨d, hd, hk⟩ := tdK_iff.1 hk
    split at hk
    · rename_i h1 h2 h3
      have key : ∀ k', binK X op ty (.agg xs) (.agg ys) k' ↔ eqPart op xs ys k' := by
        clear hk hk0
        intro k'
        unfold binK tdK
        simp only [hd]
        rw [h1, h2, h3]
        cases op <;> rfl
      have hF : Fun1 (eqPart op xs ys) := by
        clear hk hk0 key
        cases op
        case eql => exact Fun1.bind (F := eqCells xs ys) (G := fun c k => boolK c k) Fun1.eqC fun c => Fun1.bool
        case neq => exact Fun1.bind (F := eqCells xs ys) (G := fun c k => boolK (!c) k) Fun1.eqC fun c => Fun1.bool
        all_goals exact Fun1.false
      exact (Fun1.iff key hF) k hk0
    · exact hk.elim
  · exact hk.elim

theorem Fun1.un {op : UnOp} {x : LV} : Fun1 (unK op x) := by
  intro k hk
  unfold unK at hk
  split at hk <;> first
    | exact hk.elim
    | exact ⟨_, hk, fun k' h' => h'⟩

theorem Fun1.conv {s d : Nat} {x : LV} : Fun1 (convK X s d x) := by
  intro k hk
  obtain ⟨td, h1, hk⟩ := tdK_iff.1 hk
  split at hk
  · rename_i hd _
    exact ⟨_, hk, fun k' h' => tdK_iff.2 ⟨td, h1, by simp only [hd]; exact h'⟩⟩
  · rename_i hd _
    exact ⟨_, hk, fun k' h' => tdK_iff.2 ⟨td, h1, by simp only [hd]; exact h'⟩⟩
  · exact hk.elim

theorem Fun1.field {ty f : Nat} {K : Nat → TD → (LV → Prop) → Prop} (hK : ∀ a d, Fun1 (K a d)) : Fun1 (fun k => fieldK X ty f fun a d => K a d k) := by
  intro k hk
  obtain ⟨d, h1, hk⟩ := tdK_iff.1 hk
  split at hk
  · rename_i fs hdesc
    split at hk
    · rename_i fl hfl
      obtain ⟨df, h2, hk⟩ := tdK_iff.1 hk
      obtain ⟨a, h3, h4⟩ := hK _ _ k hk
      refine ⟨a, h3, fun k' h' => tdK_iff.2 ⟨d, h1, ?_⟩⟩
      rw [hdesc]
      simp only [hfl]
      exact tdK_iff.2 ⟨df, h2, h4 k' h'⟩
    · exact hk.elim
  · exact hk.elim

theorem Fun1.idxv {ty : Nat} {x : LV} {i : Int} : Fun1 (idxK X ty x i) := by
  intro k hk
  obtain ⟨d, h1, hk⟩ := tdK_iff.1 hk
  split at hk
  · rename_i len el cs hdesc hk0
    have hF : Fun1 (fun k' : LV → Prop => tdK X el fun de => idxB i (len : Int) (partK de cs (i.toNat * de.sz) k')) := Fun1.bind Fun1.td fun de => Fun1.idx Fun1.part
    obtain ⟨a, h3, h4⟩ := hF k hk
    refine ⟨a, h3, fun k' h' => tdK_iff.2 ⟨d, h1, ?_⟩⟩
    rw [hdesc]
    exact h4 k' h'
  · exact hk.elim

theorem Fun1.fill {place : Nat → (Nat → Nat → Prop) → Prop} (hp : ∀ i, ∃ F : (Nat × Nat → Prop) → Prop, Fun1 F ∧ ∀ k, place i k ↔ F fun p => k p.1 p.2) : ∀ {ps : List (Nat × LV)} {cs : List LV}, Fun1 (fillK place cs ps)
  | [], cs => Fun1.pure cs
  | (i, x) :: r, cs => by
    obtain ⟨F, hF, he⟩ := hp i
    refine Fun1.iff (G := fun k => F fun p => cellsK x fun ps => pickB (decide (ps.length = p.2)) (spliceK cs p.1 ps fun cs' => fillK place cs' r k) False) (fun k => ?_) ?_
    · have := he fun off sz => cellsK x fun ps => pickB (decide (ps.length = sz)) (spliceK cs off ps fun cs' => fillK place cs' r k) False
      exact this
    · exact Fun1.bind hF fun p => Fun1.bind Fun1.cells fun ps => Fun1.pick (Fun1.bind Fun1.splice fun cs' => Fun1.fill hp) Fun1.false

theorem Fun1.places : ∀ {fs : List Field}, Fun1 (placesK X fs)
  | [] => Fun1.pure []
  | f :: r => by
    show Fun1 (fun k => tdK X f.type fun df => placesK X r fun l => k ((f.offset, df.sz) :: l))
    exact Fun1.bind Fun1.td fun df => Fun1.bind (Fun1.places (fs := r)) fun l => Fun1.pure ((f.offset, df.sz) :: l)

theorem Fun1.build {ty : Nat} {ps : List (Nat × LV)} : Fun1 (buildK X ty ps) := by
  intro k hk
  obtain ⟨d, h1, hk⟩ := tdK_iff.1 hk
  split at hk
  · rename_i fs hdesc
    have hF : Fun1 (fun k' : LV → Prop => placesK X fs.toList fun l => fillK (fun i kk => getK l i fun p => kk p.1 p.2) (d.zero.map .v) ps fun cs => k' (LV.agg cs)) :=
      Fun1.bind Fun1.places fun l => Fun1.bind (Fun1.fill fun i => ⟨getK l i, Fun1.get, fun k => Iff.rfl⟩) fun cs => Fun1.pure (LV.agg cs)
    obtain ⟨a, h3, h4⟩ := hF k hk
    refine ⟨a, h3, fun k' h' => tdK_iff.2 ⟨d, h1, ?_⟩⟩
    rw [hdesc]
    exact h4 k' h'
  · rename_i n el hdesc
    have hF : Fun1 (fun k' : LV → Prop => tdK X el fun de => fillK (fun i kk => kk (i * de.sz) de.sz) (d.zero.map .v) ps fun cs => k' (LV.agg cs)) :=
      Fun1.bind Fun1.td fun de => Fun1.bind (Fun1.fill fun i => ⟨fun k => k (i * de.sz, de.sz), Fun1.pure _, fun k => Iff.rfl⟩) fun cs => Fun1.pure (LV.agg cs)
    obtain ⟨a, h3, h4⟩ := hF k hk
    refine ⟨a, h3, fun k' h' => tdK_iff.2 ⟨d, h1, ?_⟩⟩
    rw [hdesc]
    exact h4 k' h'
  · exact hk.elim

theorem Fun1.chunk {sz : Nat} : ∀ {n : Nat} {cs : List LV}, Fun1 (chunkK sz n cs)
  | 0, cs => Fun1.pure []
  | n + 1, cs => by
    show Fun1 (fun k => takeK cs sz fun e => dropK cs sz fun r => chunkK sz n r fun es => k (e :: es))
    exact Fun1.bind Fun1.take fun e => Fun1.bind Fun1.drop fun r => Fun1.bind (Fun1.chunk (n := n) (cs := r)) fun es => Fun1.pure (e :: es)
theorem Fun1.zeros {z : List LV} : ∀ {n : Nat}, Fun1 (zerosK z n)
  | 0 => Fun1.pure []
  | n + 1 => by
    show Fun1 (fun k => zerosK z n fun r => appK z r k)
    exact Fun1.bind (Fun1.zeros (n := n)) fun r => Fun1.app
end
end E
end Go.Proofs.YtjhognibibmeiaaGreatDoor
