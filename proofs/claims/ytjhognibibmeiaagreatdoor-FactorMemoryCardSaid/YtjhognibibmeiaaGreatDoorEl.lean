/-
  THE EVALUATOR, twelfth part: operations one behind the other.
-/
import Derived.Test.YtjhognibibmeiaaGreatDoorEk
set_option linter.unusedVariables false
namespace Go.Proofs.YtjhognibibmeiaaGreatDoor
namespace E
open Go Go.RowKit

section
variable {P : Program} {X : Ctx}

/-- What holds of a state when a piece of code is begun, carried along. -/
structure At0 (X : Ctx) (G : Gh) (s : St) (a : Act) (w : World) : Prop where
  h : HRel G w s.h
  t : Rels G w s.t a.tmps.toList
  g : GlOK X.glob G w

theorem At0.put {G G' : Gh} {s : St} {a : Act} {w w' : World} {dst : Option Nat} {l : LV} {v : Value} {h' : List Blk} {k : List LV → Prop} (hs : At0 X G s a w) (he : Ext G.n G w G' w') (hh' : HRel G' w' h') (hl : Rel G' w' l v) (hk : putK s.t dst l k) :
    ∃ t', k t' ∧ At0 X G' ⟨t', h'⟩ (a.put dst v) w' := by
  have ht := hs.t.ext hs.h he
  have hg := hs.g.ext hs.h he
  cases dst with
  | none => exact ⟨s.t, hk, hh', ht, hg⟩
  | some d =>
    obtain ⟨hd, hk⟩ := setK_iff.1 hk
    refine ⟨_, hk, hh', ?_, hg⟩
    have := rels_set ht d hl
    simpa [Act.put, Array.toList_setIfInBounds] using this

theorem opers_ok (hX : OK P X) {ops : Array Oper} {Q : Exit → Act → World → Prop} {m : Nat} : ∀ {l : List Oper} {G : Gh} {s : St} {a : Act} {w : World} {k : St → Prop}, opers X ops.toList l s k → At0 X G s a w → m ≤ G.n →
    (∀ G' s' a' w', k s' → At0 X G' s' a' w' → Ext m G w G' w' → a'.defers = a.defers → Q .normal a' w') → wpList P ops Q l a w := by
  intro l
  induction l with
  | nil =>
    intro G s a w k hk hs hm hq
    exact hq G s a w hk hs (Ext.refl hm) rfl
  | cons o r ih =>
    intro G s a w k hk hs hm hq
    obtain ⟨st, sh⟩ := s
    have go : ∀ (hk : opVal X st sh o.op fun v h' => putK st o.dst v fun t' => opers X ops.toList r ⟨t', h'⟩ k), o.wp P a w (wpList P ops Q r) Q := by
      intro hk
      have hh := hs.h
      have ht := hs.t
      simp only at hh ht
      have hgv := opVal_ok (P := P) (s := ⟨st, sh⟩) hX hk hh hs.g ht
      refine hgv _ _ fun v w' ⟨l, h', G', h1, h2, h3, h4⟩ => ?_
      obtain ⟨t', h5, h6⟩ := hs.put h2 h3 h4 h1
      refine ih h5 h6 (Nat.le_trans hm h2.le') fun G2 s2 a2 w2 h7 h8 h9 h10 => hq G2 s2 a2 w2 h7 h8 ((h2.less hm).trans h9) (h10.trans ?_)
      cases o.dst <;> rfl
    have skip : ∀ (hk : putK st o.dst (.v undefV) fun t' => opers X ops.toList r ⟨t', sh⟩ k), wpList P ops Q r (a.put o.dst undef) w := by
      intro hk
      obtain ⟨t', h5, h6⟩ := hs.put (Ext.refl (Nat.le_refl _)) hs.h (.r _ _ (.v undefV)) hk
      refine ih h5 h6 hm fun G2 s2 a2 w2 h7 h8 h9 h10 => hq G2 s2 a2 w2 h7 h8 h9 (h10.trans ?_)
      cases o.dst <;> rfl
    unfold opers at hk
    unfold wpList
    split at hk
    · rename_i hgd
      rw [if_pos (by simp [Region.wanted, hgd])]
      exact .inl (go hk)
    · rename_i j want hgd
      obtain ⟨oj, hoj, hk⟩ := getK_iff.1 hk
      split at hk
      · exact hk.elim
      · rename_i d hd
        obtain ⟨g, hg1, hk⟩ := getK_iff.1 hk
        split at hk
        · rename_i b
          obtain ⟨y, hy1, hy2⟩ := rels_get hs.t hg1
          have hyv := rel_v hy2
          have hyield : yielded ops a.tmps j = some b := by
            have h1 : ops[j]? = some oj := by simpa using hoj
            have h2 : a.tmps[d]? = some (.bool b) := by rw [← hyv]; simpa using hy1
            simp [yielded, h1, hd, h2]
          unfold pickB at hk
          split at hk
          · rename_i hb
            have hb : b = want := by simpa using hb
            rw [if_pos (by simp [Region.wanted, hgd, hyield, hb])]
            exact .inl (go hk)
          · rename_i hb
            have hb : b ≠ want := by simpa using hb
            rw [if_neg (by simp [Region.wanted, hgd, hyield, hb])]
            exact skip hk
        · rename_i xs
          obtain ⟨y, hy1, hy2⟩ := rels_get hs.t hg1
          have hyv := rel_v hy2
          have hyield : yielded ops a.tmps j = none := by
            have h1 : ops[j]? = some oj := by simpa using hoj
            have h2 : a.tmps[d]? = some (.tuple xs) := by rw [← hyv]; simpa using hy1
            simp [yielded, h1, hd, h2]
          rw [if_neg (by simp [Region.wanted, hgd, hyield])]
          exact skip hk
        · exact hk.elim

/-- A region's operations in whatever list of places. -/
theorem wpOps_of_list {ops : Array Oper} {Q : Exit → Act → World → Prop} : ∀ {l : List Nat} {a : Act} {w : World}, wpList P ops Q (l.filterMap fun i => ops[i]?) a w → wpOps P ops Q l a w := by
  intro l
  induction l with
  | nil => intro a w h; exact h
  | cons i l ih =>
    intro a w h
    cases ho : ops[i]? with
    | none =>
      rw [List.filterMap_cons_none ho] at h
      simp only [wpOps, ho]
      exact ih h
    | some o =>
      rw [List.filterMap_cons_some ho] at h
      simp only [wpOps, ho]
      unfold wpList at h
      split at h
      · rename_i hw
        rw [if_pos hw]
        rcases h with h | h
        · exact .inl (Oper.wp_mono (fun a w h => ih h) h)
        · exact .inr h
      · rename_i hw
        rw [if_neg hw]
        exact ih h

theorem range_filterMap (ops : Array Oper) : (List.range ops.size).filterMap (fun i => ops[i]?) = ops.toList := by
  apply List.ext_getElem?
  intro i
  have : ∀ (n : Nat), n ≤ ops.size → (List.range n).filterMap (fun i => ops[i]?) = ops.toList.take n := by
    intro n
    induction n with
    | zero => intro _; simp
    | succ n ih =>
      intro hn
      rw [List.range_succ, List.filterMap_append, ih (by omega)]
      have hlt : n < ops.size := by omega
      rw [List.take_succ_eq_append_getElem (by simpa using hlt)]
      simp [hlt]
  rw [this ops.size (Nat.le_refl _), List.take_of_length_le (by simp)]
end

/-! ### Code -/
/-- What code leaves behind. -/
def Post (X : Ctx) (m : Nat) (G : Gh) (w : World) (d : List Deferred) (Q : Exit → St → Prop) (e : Exit) (a' : Act) (w' : World) : Prop :=
  ∃ G' s', Q e s' ∧ At0 X G' s' a' w' ∧ Ext m G w G' w' ∧ a'.defers = d

/-- A loop at the head of a round. -/
def LoopK (P : Program) (c : Code) (Q : Exit → Act → World → Prop) (a : Act) (w : World) : Prop :=
  ∀ (b : Frame) (k : List Item) (cs : List Frame), ∃ e a' w', Q e a' w' ∧ Arrives P (lone (b.at a (.code c :: .inLoop c :: k)) cs w) b k cs e a' w'

theorem LoopK.step {P : Program} {c : Code} {Q : Exit → Act → World → Prop} {a : Act} {w : World} (h : c.wp P (Exit.then (LoopK P c Q) Q) a w) : LoopK P c Q a w := by
  intro b k cs
  obtain ⟨e, a₁, w₁, hq, harr⟩ := h b (.inLoop c :: k) cs
  cases e with
  | normal =>
    obtain ⟨e₂, a₂, w₂, hq₂, harr₂⟩ := hq b k cs
    exact ⟨e₂, a₂, w₂, hq₂, .of_steps (Steps.trans harr (.one step_inLoop)) harr₂⟩
  | exit id => exact ⟨_, a₁, w₁, hq, .pass (x := .inLoop c) rfl (fun _ _ => .inl (by simp)) harr⟩
  | goto l => exact ⟨_, a₁, w₁, hq, .pass (x := .inLoop c) rfl (fun _ _ => .inl (by simp)) harr⟩
  | ret => exact ⟨_, a₁, w₁, hq, .pass (x := .inLoop c) rfl (fun _ _ => .inl (by simp)) harr⟩
  | panic ch => exact ⟨_, a₁, w₁, hq, .pass (x := .inLoop c) rfl (fun _ _ => .inl (by simp)) harr⟩
  | outgrown => exact ⟨_, a₁, w₁, hq, .pass (x := .inLoop c) rfl (fun _ _ => .inl (by simp)) harr⟩

theorem LoopK.wp {P : Program} {c : Code} {Q : Exit → Act → World → Prop} {a : Act} {w : World} (h : LoopK P c Q a w) : (Code.loop c).wp P Q a w := by
  intro b k cs
  obtain ⟨e, a', w', hq, harr⟩ := h b k cs
  exact ⟨e, a', w', hq, .of_steps (.one step_loop) harr⟩

/-- The loop, told of an abstract state: nothing is looked into. m: the blocks that keep their names. -/
structure LoopP (P : Program) (X : Ctx) (m : Nat) (c : Code) (s : St) (Q : Exit → St → Prop) : Prop where
  mk :: (out : ∀ G a w, At0 X G s a w → m ≤ G.n → LoopK P c (Post X m G w a.defers Q) a w)

/-- A loop, up to so many rounds by reckoning, then told as a whole. -/
def loopN (P : Program) (X : Ctx) (m : Nat) (c : Code) (body : St → (Exit → St → Prop) → Prop) : Nat → St → (Exit → St → Prop) → Prop
  | 0, s, Q => LoopP P X m c s Q
  | n + 1, s, Q => body s fun e s' =>
    match e with
    | .normal => loopN P X m c body n s' Q
    | e => Q e s'

/-- What a piece of code leaves. u: how many rounds of its loops are reckoned. -/
def code (P : Program) (X : Ctx) (m : Nat) (u : Nat) : Code → St → (Exit → St → Prop) → Prop
  | .skip, s, Q => Q .normal s
  | .region _ ops _, s, Q => opers X ops.toList ops.toList s fun s' => Q .normal s'
  | .seq a b, s, Q => code P X m u a s fun e s' =>
    (match e with
     | .normal => code P X m u b s' Q
     | e => Q e s')
  | .cond c a b, ⟨t, h⟩, Q => opdK X t c fun v =>
    condB v (code P X m u a ⟨t, h⟩ Q) (code P X m u b ⟨t, h⟩ Q)
  | .block id c, s, Q => code P X m u c s fun e s' =>
    (match e with
     | .exit i => (match Nat.beq i id with | true => Q .normal s' | false => Q (.exit i) s')
     | .goto l => False
     | e => Q e s')
  | .loop c, s, Q => loopN P X m c (code P X m u c) u s Q
  | .exit id, s, Q => Q (.exit id) s
  | .ret, s, Q => Q .ret s
  | _, _, _ => False

/-- Do the regions that draw their order pass 'ord'? -/
def draws (ord : Array Oper → Bool) : Code → Bool
  | .region _ ops true => ord ops
  | .seq a b => draws ord a && draws ord b
  | .cond _ a b => draws ord a && draws ord b
  | .block _ c => draws ord c
  | .loop c => draws ord c
  | _ => true

/-- Regions that draw their order: the promise of 'ord'. -/
def OrdOK (P : Program) (X : Ctx) (ord : Array Oper → Bool) : Prop :=
  ∀ (ops : Array Oper), ord ops = true → ∀ (l : List Nat), (∃ t, l = Region.schedule (P.follows .mixedOrders) ops t) → ∀ (s : St) (k : St → Prop), opers X ops.toList ops.toList s k → opers X ops.toList (l.filterMap fun i => ops[i]?) s k

section
variable {P : Program} {X : Ctx} {m u : Nat} {ord : Array Oper → Bool}

theorem At0.drew {G : Gh} {s : St} {a : Act} {w w' : World} (h : At0 X G s a w) (hw : w'.heap = w.heap) (hos : w'.os = w.os) (htape : w'.tape = w.tape) (hout : w'.output = w.output) (hdr : w.drawn ≤ w'.drawn) : At0 X G s a w' ∧ ∀ m, m ≤ G.n → Ext m G w G w' := by
  have he : ∀ m, m ≤ G.n → Ext m G w G w' := fun m hm => ⟨hos, htape, hout, hdr, by rw [hw]; exact Nat.le_refl _, fun b _ _ => by rw [hw], fun b h => .inl h, fun b h => h, fun b h => .inl h, fun _ _ => rfl, hm, hm⟩
  have hh : HRel G w' s.h := ⟨h.h.n, fun b hb => by rw [hw]; exact h.h.R b hb, fun b hb => by rw [hw]; exact h.h.own b hb, fun id bk hb => (h.h.blk id bk hb).mono h.h (h.h.lt hb) (he _ (Nat.le_refl _)) (fun _ => by rw [hw]) (fun _ h => h), h.h.inj⟩
  exact ⟨⟨hh, h.t.ext h.h (he _ (Nat.le_refl _)), h.g.ext h.h (he _ (Nat.le_refl _))⟩, he⟩

theorem code_ok (hX : OK P X) (hO : OrdOK P X ord) : ∀ (c : Code) (hd : draws ord c = true) {G : Gh} {s : St} {a : Act} {w : World} {Q : Exit → St → Prop}, code P X m u c s Q → At0 X G s a w → m ≤ G.n → c.wp P (Post X m G w a.defers Q) a w := by
  intro c
  induction c with
  | skip => intro hd G s a w Q h hs hm; exact wp_skip ⟨G, s, h, hs, Ext.refl hm, rfl⟩
  | region id ops draw =>
    intro hd G s a w Q h hs hm
    cases draw with
    | false =>
      refine wp_region (wpOps_of_list ?_)
      rw [range_filterMap]
      exact opers_ok hX h hs hm fun G' s' a' w' h1 h2 h3 h4 => ⟨G', s', h1, h2, h3, h4⟩
    | true =>
      simp only [code] at h
      refine wp_region_draw fun t => wpOps_of_list ?_
      obtain ⟨hs', he'⟩ := hs.drew (w' := { w with drawn := w.drawn + 1 }) rfl rfl rfl rfl (Nat.le_succ _)
      exact opers_ok hX (hO ops hd _ ⟨t, rfl⟩ s _ h) hs' hm fun G' s' a' w' h1 h2 h3 h4 => ⟨G', s', h1, h2, (he' m hm).trans h3, h4⟩
  | seq x y ihx ihy =>
    intro hd G s a w Q h hs hm
    simp only [draws, Bool.and_eq_true] at hd
    refine wp_seq (wp_mono (ihx hd.1 h hs hm) ?_)
    rintro e a' w' ⟨G', s', h1, h2, h3, h4⟩
    cases e with
    | normal =>
      refine wp_mono (ihy hd.2 h1 h2 h3.le') ?_
      rintro e a'' w'' ⟨G2, s2, h5, h6, h7, h8⟩
      exact ⟨G2, s2, h5, h6, h3.trans h7, h8.trans h4⟩
    | _ => exact ⟨G', s', h1, h2, h3, h4⟩
  | cond c x y ihx ihy =>
    intro hd G s a w Q h hs hm
    simp only [draws, Bool.and_eq_true] at hd
    obtain ⟨st, sh⟩ := s
    simp only [code] at h
    have ht := hs.t
    obtain ⟨l, h1, h2⟩ := opdK_ok h hs.g ht
    unfold condB at h1
    split at h1
    · exact wp_cond_true (rel_v h2) (ihx hd.1 h1 hs hm)
    · exact wp_cond_false (rel_v h2) (ihy hd.2 h1 hs hm)
    · exact h1.elim
  | block id c ih =>
    intro hd G s a w Q h hs hm
    refine wp_block (wp_mono (ih hd h hs hm) ?_)
    rintro e a' w' ⟨G', s', h1, h2, h3, h4⟩
    cases e with
    | exit i =>
      simp only at h1
      simp only [Exit.inBlock]
      split at h1
      · rename_i hi
        rw [if_pos (Nat.eq_of_beq_eq_true hi)]
        exact ⟨G', s', h1, h2, h3, h4⟩
      · rename_i hi
        rw [if_neg (Nat.ne_of_beq_eq_false hi)]
        exact ⟨G', s', h1, h2, h3, h4⟩
    | goto l => exact h1.elim
    | _ => exact ⟨G', s', h1, h2, h3, h4⟩
  | loop c ih =>
    intro hd G s a w Q h hs hm
    refine LoopK.wp ?_
    simp only [code] at h
    have main : ∀ (n : Nat) {G : Gh} {s : St} {a : Act} {w : World}, loopN P X m c (code P X m u c) n s Q → At0 X G s a w → m ≤ G.n → LoopK P c (Post X m G w a.defers Q) a w := by
      intro n
      induction n with
      | zero => intro G s a w h hs hm; exact h.out G a w hs hm
      | succ n ihn =>
        intro G s a w h hs hm
        refine LoopK.step (wp_mono (ih hd h hs hm) ?_)
        rintro e a' w' ⟨G', s', h1, h2, h3, h4⟩
        cases e with
        | normal =>
          have := ihn h1 h2 h3.le'
          intro b k cs
          obtain ⟨e2, a2, w2, ⟨G2, s2, h5, h6, h7, h8⟩, h9⟩ := this b k cs
          exact ⟨e2, a2, w2, ⟨G2, s2, h5, h6, h3.trans h7, h8.trans h4⟩, h9⟩
        | _ => exact ⟨G', s', h1, h2, h3, h4⟩
    exact main u h hs hm
  | exit id => intro hd G s a w Q h hs hm; exact wp_exit ⟨G, s, h, hs, Ext.refl hm, rfl⟩
  | ret => intro hd G s a w Q h hs hm; exact wp_ret ⟨G, s, h, hs, Ext.refl hm, rfl⟩
  | _ => intro hd G s a w Q h hs hm; exact h.elim

/-- One round more. -/
theorem LoopP.step (hX : OK P X) (hO : OrdOK P X ord) (u : Nat) {c : Code} {s : St} {Q : Exit → St → Prop} (hd : draws ord c = true) (h : code P X m u c s fun e s' => match e with | .normal => LoopP P X m c s' Q | e => Q e s') : LoopP P X m c s Q := by
  refine ⟨fun G a w hs hm => LoopK.step (wp_mono (code_ok hX hO c hd h hs hm) ?_)⟩
  rintro e a' w' ⟨G', s', h1, h2, h3, h4⟩
  cases e with
  | normal =>
    have := h1.out G' a' w' h2 h3.le'
    intro b k cs
    obtain ⟨e2, a2, w2, ⟨G2, s2, h5, h6, h7, h8⟩, h9⟩ := this b k cs
    exact ⟨e2, a2, w2, ⟨G2, s2, h5, h6, h3.trans h7, h8.trans h4⟩, h9⟩
  | _ => exact ⟨G', s', h1, h2, h3, h4⟩

/-- One round more, whose end is told otherwise. -/
theorem LoopP.step2 (hX : OK P X) (hO : OrdOK P X ord) (u : Nat) {c : Code} {s : St} {Q Q1 : Exit → St → Prop} (hd : draws ord c = true) (h : code P X m u c s Q1)
    (hn : ∀ s', Q1 .normal s' → LoopP P X m c s' Q) (he : ∀ e s', e ≠ .normal → Q1 e s' → Q e s') : LoopP P X m c s Q := by
  refine ⟨fun G a w hs hm => LoopK.step (wp_mono (code_ok hX hO c hd h hs hm) ?_)⟩
  rintro e a' w' ⟨G', s', h1, h2, h3, h4⟩
  cases e with
  | normal =>
    have := (hn s' h1).out G' a' w' h2 h3.le'
    intro b k cs
    obtain ⟨e2, a2, w2, ⟨G2, s2, h5, h6, h7, h8⟩, h9⟩ := this b k cs
    exact ⟨e2, a2, w2, ⟨G2, s2, h5, h6, h3.trans h7, h8.trans h4⟩, h9⟩
  | exit id => exact ⟨G', s', he _ _ (by simp) h1, h2, h3, h4⟩
  | goto l => exact ⟨G', s', he _ _ (by simp) h1, h2, h3, h4⟩
  | ret => exact ⟨G', s', he _ _ (by simp) h1, h2, h3, h4⟩
  | panic ch => exact ⟨G', s', he _ _ (by simp) h1, h2, h3, h4⟩
  | outgrown => exact ⟨G', s', he _ _ (by simp) h1, h2, h3, h4⟩

theorem LoopP.mono {c : Code} {s : St} {Q Q' : Exit → St → Prop} (h : LoopP P X m c s Q) (hq : ∀ e s, Q e s → Q' e s) : LoopP P X m c s Q' := by
  refine ⟨fun G a w hs hm b k cs => ?_⟩
  obtain ⟨e2, a2, w2, ⟨G2, s2, h5, h6, h7, h8⟩, h9⟩ := h.out G a w hs hm b k cs
  exact ⟨e2, a2, w2, ⟨G2, s2, hq _ _ h5, h6, h7, h8⟩, h9⟩
end
end E
end Go.Proofs.YtjhognibibmeiaaGreatDoor
