/-
  THE EVALUATOR, twentieth part: contracts whose answer is new memory, the caller's to write.
-/
import Derived.Test.YtjhognibibmeiaaGreatDoorEt
set_option linter.unusedVariables false
namespace Go.Proofs.YtjhognibibmeiaaGreatDoor
namespace E
open Go Go.RowKit

abbrev FSpec := List LV → (LV → List Blk → Prop) → Prop
/-- hs: rows of h', some given up, dead ones behind. -/
structure SubH (hs h' : List Blk) : Prop where
  len : h'.length ≤ hs.length
  blk : ∀ (i : Nat) b, hs[i]? = some b → b = .dead ∨ ∃ sz ex es, b = .row sz ex es ∧ h'[i]? = some b
def plainB : Blk → Prop
  | .dead => True
  | .row _ _ es => ∀ e ∈ es, ∀ c ∈ e, ∃ x, c = .v x
  | _ => False
def looseB : Blk → Blk
  | .row sz _ es => .row sz false es
  | b => b
def shC (k : Nat) : LV → LV
  | .v x => .v x
  | .sl id off len _ => .sl (id + k) off len none
  | _ => .unk
def sh1 (k : Nat) : LV → LV
  | .agg cs => .agg (cs.map (shC k))
  | x => shC k x
def sh2 (k : Nat) : LV → LV
  | .tup cs => .tup (cs.map (sh1 k))
  | x => sh1 k x
def liftF (S : FSpec) : Spec := fun args h K => outs h args fun as0 _ => S as0 fun r hs => (∀ b ∈ hs, plainB b) ∧ ∃ (r' : LV) (hs' : List Blk), r' = sh2 h.length r ∧ hs' = hs.map looseB ∧ K r' (h ++ hs')

def g0 (R : Nat → Prop) : Gh := ⟨fun _ => ⟨0, 0, 0⟩, 0, R, fun _ => False⟩
def SoundF (P : Program) (gl : Nat → Option (List Value)) (g : Nat) (S : FSpec) : Prop :=
  ∀ args K, S args K → ∀ R vals w, (∀ b, R b → b < w.heap.size) → GlR gl R w → RRels R w args vals →
    Runs P g vals.toArray w fun v w' => ∃ r hs G', K r hs ∧ Ext 0 (g0 R) w G' w' ∧ HRel G' w' hs ∧ Rel G' w' r v

section
variable {P : Program} {X : Ctx} {ord : Array Oper → Bool} {G G' : Gh} {w w' : World} {h hs : List Blk}

theorem HRel.sub (hh : HRel G' w' h) (hsub : SubH hs h) : HRel { G' with n := hs.length } w' hs := by
  have hrow : ∀ (i : Nat) b, hs[i]? = some b → b.live = true → ∃ sz ex es, b = .row sz ex es ∧ h[i]? = some b := fun i b hb hl => by
    rcases hsub.blk i b hb with rfl | h
    · cases hl
    · exact h
  refine ⟨rfl, hh.R, hh.own, fun id bk hb => ?_, fun i j bi bj hi hj li lj hne => ?_⟩
  · rcases hsub.blk id bk hb with rfl | ⟨sz, ex, es, rfl, hb'⟩
    · trivial
    · exact hh.blk id _ hb'
  · obtain ⟨_, _, _, _, h1⟩ := hrow i bi hi li
    obtain ⟨_, _, _, _, h2⟩ := hrow j bj hj lj
    exact hh.inj i j bi bj h1 h2 li lj hne

theorem soundF_body (u : Nat) (hX : OK P X) (hO : OrdOK P X ord) {g : Nat} {fn : Func} (hf : P.funcs[g]? = some fn) (hd : drawsF ord fn = true) (hn : (fn.name == "runtime.NumGoroutine") = false) {S : FSpec}
    (hS : ∀ args K, S args K → bodyK P X u fn args [] fun r h' => ∃ hs, SubH hs h' ∧ K r hs) : SoundF P X.glob g S := by
  intro args K hk R vals w hR hg hr
  have hc := callOK_body u (S := fun args h K' => h = [] ∧ bodyK P X u fn args [] K') hX hO hf hd hn (fun args h K' ⟨h1, h2⟩ => by subst h1; exact h2)
  have hrun := hc args [] (fun r h' => ∃ hs, SubH hs h' ∧ K r hs) ⟨rfl, hS args K hk⟩ (g0 R) vals w
    ⟨rfl, fun b hb => ⟨hR b hb, fun h => h⟩, fun b hb => hb.elim, by simp, by simp⟩ (fun g cs hgc => hg g cs hgc) ⟨hr.1, fun i l x h1 h2 => .r _ _ (hr.2 i l x h1 h2)⟩
  have fin : ∀ v w', (∃ r h' G', (∃ hs, SubH hs h' ∧ K r hs) ∧ Ext (g0 R).n (g0 R) w G' w' ∧ HRel G' w' h' ∧ Rel G' w' r v) → ∃ r hs G', K r hs ∧ Ext 0 (g0 R) w G' w' ∧ HRel G' w' hs ∧ Rel G' w' r v := by
    rintro v w' ⟨r, h', G', ⟨hs, h0, h1⟩, h2, h3, h4⟩
    exact ⟨r, hs, { G' with n := hs.length }, h1, ⟨h2.os, h2.tape, h2.output, h2.drawn, h2.size, h2.keep, h2.own, h2.rd, h2.rd', fun i hi => absurd hi (Nat.not_lt_zero _), Nat.zero_le _, Nat.zero_le _⟩, h3.sub h0,
      h4.mono (by rw [h3.n]; exact h0.len) (fun _ _ => rfl) (fun _ h => h) (fun _ _ => rfl)⟩
  rcases hrun with ⟨h1, h2⟩ | ⟨v, w', h1, h2⟩
  · exact .inl ⟨h1, h2.mono fun e w' ⟨v, he, hv⟩ => ⟨v, he, fin v w' hv⟩⟩
  · exact .inr ⟨v, w', h1, fin v w' h2⟩

def gcat (G G' : Gh) (n : Nat) : Gh := ⟨fun i => if i < G.n then G.ρ i else G'.ρ (i - G.n), G.n + n, G.R, fun b => G.own b ∨ G'.own b⟩
theorem gcat_hi {n i : Nat} : (gcat G G' n).ρ (i + G.n) = G'.ρ i := by
  unfold gcat
  simp only
  rw [if_neg (by omega), Nat.add_sub_cancel]
theorem shC_rel {c : LV} {x : Value} (hr : Rel G' w c x) : Rel (gcat G G' G'.n) w (shC G.n c) x := by
  cases c with
  | v y => rw [rel_v hr]; exact .r _ _ (.v _)
  | sl id off len cap =>
    obtain ⟨hn, cp, rfl, h1, h2, h3⟩ := rel_sl hr
    have := Rel.sl (G := gcat G G' G'.n) (w := w) (id + G.n) off len none cp (by show id + G.n < G.n + G'.n; omega) h1 (by rw [gcat_hi]; exact h2) (by simp)
    rw [gcat_hi] at this
    exact this
  | _ => exact .unk _
theorem sh1_rel {c : LV} {x : Value} (hr : Rel G' w c x) : Rel (gcat G G' G'.n) w (sh1 G.n c) x := by
  cases c with
  | agg cs =>
    obtain ⟨vs, rfl, h1⟩ := rel_agg hr
    refine .agg _ vs (by simpa using h1.1) fun i c x hc hx => ?_
    rw [List.getElem?_map] at hc
    cases h2 : cs[i]? with
    | none => rw [h2] at hc; cases hc
    | some c0 =>
      rw [h2] at hc
      injection hc with hc
      subst hc
      exact shC_rel (h1.2 i c0 x h2 hx)
  | _ => exact shC_rel hr
theorem sh2_rel {c : LV} {x : Value} (hr : Rel G' w c x) : Rel (gcat G G' G'.n) w (sh2 G.n c) x := by
  cases c with
  | tup cs =>
    obtain ⟨vs, rfl, h1⟩ := rel_tup hr
    refine .tup _ vs (by simpa using h1.1) fun i c x hc hx => ?_
    rw [List.getElem?_map] at hc
    cases h2 : cs[i]? with
    | none => rw [h2] at hc; cases hc
    | some c0 =>
      rw [h2] at hc
      injection hc with hc
      subst hc
      exact sh1_rel (h1.2 i c0 x h2 hx)
  | _ => exact sh1_rel hr

theorem callOK_liftF {gl : Nat → Option (List Value)} {g : Nat} {S : FSpec} (hS : SoundF P gl g S) : CallOK P gl g (liftF S) := by
  intro args h K hk G vals w hh hg hr
  obtain ⟨as0, b, hk, has⟩ := outs_ok hk hh hr
  have hrun := hS as0 _ hk (RB G h b) vals w (fun x hx => by
    rcases hx with hx | ⟨_, id, sz, ex, es, hb, rfl⟩
    · exact (hh.R x hx).1
    · exact hh.own _ ((hh.blk id _ hb).own rfl)) (fun g cs hgc => ⟨.inl (hg g cs hgc).1, (hg g cs hgc).2⟩) has
  have fin : ∀ v w', (∃ r hs G', ((∀ b ∈ hs, plainB b) ∧ ∃ (r' : LV) (hs' : List Blk), r' = sh2 h.length r ∧ hs' = hs.map looseB ∧ K r' (h ++ hs')) ∧ Ext 0 (g0 (RB G h b)) w G' w' ∧ HRel G' w' hs ∧ Rel G' w' r v) →
      ∃ r h' G', K r h' ∧ Ext G.n G w G' w' ∧ HRel G' w' h' ∧ Rel G' w' r v := by
    rintro v w' ⟨r, hs, G', ⟨hpl, r', hs', rfl, rfl, hk⟩, h2, h3, h4⟩
    have fresh : ∀ x, G'.own x → w.heap.size ≤ x := fun x hx => by
      rcases h2.own x hx with h | h
      · exact h.elim
      · exact h
    have hext : Ext G.n G w (gcat G G' G'.n) w' :=
      ⟨h2.os, h2.tape, h2.output, h2.drawn, h2.size, fun x hx _ => h2.keep x hx (fun h => h), fun x hx => by
        rcases hx with hx | hx
        · exact .inl hx
        · exact .inr (fresh x hx), fun x hx => hx, fun x hx => .inl hx, fun i hi => if_pos hi, Nat.le_refl _, Nat.le_add_right _ _⟩
    have hhi : ∀ (i : Nat) bk, G.n ≤ i → (h ++ hs.map looseB)[i]? = some bk → ∃ b0, hs[i - G.n]? = some b0 ∧ looseB b0 = bk := fun i bk hi hb => by
      rw [List.getElem?_append_right (by rw [← hh.n]; exact hi), ← hh.n, List.getElem?_map] at hb
      cases h0 : hs[i - G.n]? with
      | none => rw [h0] at hb; cases hb
      | some b0 => rw [h0] at hb; injection hb with hb; exact ⟨b0, rfl, hb⟩
    have hlo : ∀ (i : Nat) bk, i < G.n → (h ++ hs.map looseB)[i]? = some bk → h[i]? = some bk := fun i bk hi hb => by
      rwa [List.getElem?_append_left (by rw [← hh.n]; exact hi)] at hb
    have hρhi : ∀ i, G.n ≤ i → (gcat G G' G'.n).ρ i = G'.ρ (i - G.n) := fun i hi => by
      have := gcat_hi (G := G) (G' := G') (n := G'.n) (i := i - G.n)
      rwa [Nat.sub_add_cancel hi] at this
    have hρlo : ∀ i, i < G.n → (gcat G G' G'.n).ρ i = G.ρ i := fun i hi => if_pos hi
    have hlive : ∀ b0 : Blk, (looseB b0).live = true → b0.live = true := fun b0 h => by cases b0 <;> first | exact h | rfl
    refine ⟨_, _, gcat G G' G'.n, hk, hext, ⟨by simp [gcat, hh.n, h3.n], ?_, ?_, ?_, ?_⟩, by rw [← hh.n]; exact sh2_rel h4⟩
    · intro x hx
      refine ⟨Nat.lt_of_lt_of_le (hh.R x hx).1 h2.size, fun ho => ?_⟩
      rcases ho with ho | ho
      · exact (hh.R x hx).2 ho
      · have := fresh x ho; have := (hh.R x hx).1; omega
    · intro x hx
      rcases hx with hx | hx
      · exact Nat.lt_of_lt_of_le (hh.own x hx) h2.size
      · exact h3.own x hx
    · intro id bk hb
      rcases Nat.lt_or_ge id G.n with hi | hi
      · have hb' := hlo id bk hi hb
        exact (hh.blk id bk hb').mono hh hi hext (fun hl => h2.keep _ (hh.own _ ((hh.blk id bk hb').own hl)) (fun h => h)) (fun _ ho => .inl ho)
      · obtain ⟨b0, h5, rfl⟩ := hhi id bk hi hb
        have hbr := h3.blk _ _ h5
        have hp := hpl b0 (List.mem_of_getElem? h5)
        cases b0 with
        | dead => trivial
        | row sz ex es =>
          obtain ⟨k1, k2, k3, k4, k5, k5', cur, e, k6, k7, k8, k9⟩ := hbr
          refine ⟨by rw [hρhi id hi]; exact .inr k1, by rw [hρhi id hi]; exact k2, k3, by rw [hρhi id hi]; exact k4, by simp, by rw [hρhi id hi]; exact k5', cur, e, by rw [hρhi id hi]; exact k6, by rw [hρhi id hi]; exact k7, k8, fun i j e c he hc => ?_⟩
          obtain ⟨x, k10, k11, k12⟩ := k9 i j e c he hc
          obtain ⟨y, rfl⟩ := hp e (List.mem_of_getElem? he) c (List.mem_of_getElem? hc)
          cases k12
          exact ⟨_, k10, k11, .v _⟩
        | box cs => exact hp.elim
        | map ag kn m => exact hp.elim
    · intro i j bi bj hi hj li lj hne
      rcases Nat.lt_or_ge i G.n with h1 | h1 <;> rcases Nat.lt_or_ge j G.n with h5 | h5
      · rw [hρlo i h1, hρlo j h5]
        exact hh.inj i j bi bj (hlo i bi h1 hi) (hlo j bj h5 hj) li lj hne
      · rw [hρlo i h1, hρhi j h5]
        obtain ⟨b0, h6, h7⟩ := hhi j bj h5 hj
        have a1 := hh.own _ ((hh.blk i bi (hlo i bi h1 hi)).own li)
        have a2 := fresh _ ((h3.blk _ _ h6).own (hlive b0 (by rw [h7]; exact lj)))
        omega
      · rw [hρhi i h1, hρlo j h5]
        obtain ⟨b0, h6, h7⟩ := hhi i bi h1 hi
        have a1 := hh.own _ ((hh.blk j bj (hlo j bj h5 hj)).own lj)
        have a2 := fresh _ ((h3.blk _ _ h6).own (hlive b0 (by rw [h7]; exact li)))
        omega
      · rw [hρhi i h1, hρhi j h5]
        obtain ⟨b0, h6, h7⟩ := hhi i bi h1 hi
        obtain ⟨b1, h8, h9⟩ := hhi j bj h5 hj
        exact h3.inj _ _ b0 b1 h6 h8 (hlive b0 (by rw [h7]; exact li)) (hlive b1 (by rw [h9]; exact lj)) (by omega)
  rcases hrun with ⟨h1, h2⟩ | ⟨v, w', h1, h2⟩
  · exact .inl ⟨h1, h2.mono fun e w' ⟨v, he, hv⟩ => ⟨v, he, fin v w' hv⟩⟩
  · exact .inr ⟨v, w', h1, fin v w' h2⟩
end

theorem mkF {g : Nat} {fn : Func} {S : FSpec} (l : List Ent) (u : Nat) (hf : PR.funcs[g]? = some fn) (hd : drawsF (ordL l) fn = true) (hn : (fn.name == "runtime.NumGoroutine") = false)
    (hS : ∀ args K, S args K → bodyK PR (XC l) u fn args [] fun r h' => ∃ hs, SubH hs h' ∧ K r hs) : SoundF PR GL g S :=
  soundF_body u (XC_ok l) (XC_ord l) hf hd hn hS
noncomputable def entF {g : Nat} {S : FSpec} (h : SoundF PR GL g S) : Ent := ⟨g, liftF S, callOK_liftF h, 4, cspec4 _⟩

/-! ### Code told piece by piece: what lies behind is not looked into -/
structure CodeP (l : List Ent) (m : Nat) (c : Code) (s : St) (Q : Exit → St → Prop) : Prop where
  mk :: (out : draws (ordL l) c = true → ∀ G a w, At0 (XC l) G s a w → m ≤ G.n → c.wp PR (Post (XC l) m G w a.defers Q) a w)
section
variable {l : List Ent} {m : Nat} {c x y : Code} {s s2 : St} {Q : Exit → St → Prop}
theorem CodeP.one (u : Nat) (h : code PR (XC l) m u c s Q) : CodeP l m c s Q := ⟨fun hd G a w hs hm => code_ok (XC_ok l) (XC_ord l) c hd h hs hm⟩
theorem CodeP.seq (u : Nat) (h : code PR (XC l) m u x s fun e s' => match e with | .normal => CodeP l m y s' Q | e => Q e s') : CodeP l m (.seq x y) s Q := by
  refine ⟨fun hd G a w hs hm => ?_⟩
  simp only [draws, Bool.and_eq_true] at hd
  refine wp_seq (wp_mono (code_ok (XC_ok l) (XC_ord l) x hd.1 h hs hm) ?_)
  rintro e a' w' ⟨G', s', h1, h2, h3, h4⟩
  cases e with
  | normal =>
    refine wp_mono (h1.out hd.2 G' a' w' h2 h3.le') ?_
    rintro e a'' w'' ⟨G2, s2, h5, h6, h7, h8⟩
    exact ⟨G2, s2, h5, h6, h3.trans h7, h8.trans h4⟩
  | _ => exact ⟨G', s', h1, h2, h3, h4⟩
theorem CodeP.weaken (σ : List Nat) (hle : Le m σ s s2) (h : CodeP l m c s2 Q) : CodeP l m c s Q := by
  refine ⟨fun hd G a w hs hm => ?_⟩
  obtain ⟨hs2, he⟩ := hle.at0 hs hm
  refine wp_mono (h.out hd _ a w hs2 he.le') ?_
  rintro e a' w' ⟨G', s', h1, h2, h3, h4⟩
  exact ⟨G', s', h1, h2, he.trans h3, h4⟩
def finQ (l : List Ent) (fn : Func) (k : LV → List Blk → Prop) (e : Exit) (s : St) : Prop :=
  match e with
  | .normal | .ret => resK (XC l) s fn.results.toList fun vs => k (oneOf vs) s.h
  | _ => False
theorem callOK_bodyP {g : Nat} {fn : Func} (hf : PR.funcs[g]? = some fn) (hc : fn.body = some c) (hd : drawsF (ordL l) fn = true) (hn : (fn.name == "runtime.NumGoroutine") = false) {S : Spec}
    (hS : ∀ args h K, S args h K → padK args fn.ntmps fun t => CodeP l h.length c ⟨t, h⟩ (finQ l fn K)) : CallOK PR GL g S := by
  intro args h K hk G vals w hh hg hr
  have hb := hS args h K hk
  refine .inl ⟨?_, ?_⟩
  · have hn' : ¬ fn.name = "runtime.NumGoroutine" := by simpa using hn
    simp [callFunc, hf, hn', hc]
  · obtain ⟨t, h1, h2, h3⟩ := padK_ok hb hr
    refine calls_of_wp hf hc (wp_mono (h1.out (by simpa [drawsF, hc] using hd) G _ w ⟨hh, ?_, hg⟩ (Nat.le_of_eq hh.n.symm)) ?_)
    · have e : (vals.toArray ++ Array.replicate (fn.ntmps - vals.toArray.size) undef).toList = vals ++ List.replicate (fn.ntmps - vals.length) undef := by simp
      simpa [e] using h2
    · rintro e a' w' ⟨G', s', h4, h5, h6, h7⟩
      cases e with
      | normal =>
        obtain ⟨ls, v, h8, h9, h10⟩ := results_ok (XC_ok l) h5 h4
        exact ⟨h7, v, h9, v, rfl, _, _, G', h8, hh.n ▸ h6, h5.h, h10⟩
      | ret =>
        obtain ⟨ls, v, h8, h9, h10⟩ := results_ok (XC_ok l) h5 h4
        exact ⟨h7, v, h9, v, rfl, _, _, G', h8, hh.n ▸ h6, h5.h, h10⟩
      | exit id => exact h4.elim
      | goto l => exact h4.elim
      | panic ch => exact h4.elim
      | outgrown => exact h4.elim
theorem soundA_of {P : Program} {X : Ctx} {g : Nat} {S : PSpec} {T : List LV → (LV → List Blk → Prop) → Prop} (hc : CallOK P X.glob g (fun args h K' => h = [] ∧ T args K'))
    (hS : ∀ args K, S args K → T args fun r h => out2 h r fun r' _ => K r') : SoundA P X.glob g S := by
  intro args K hk R vals w hR hg hr
  have hrun := hc args [] (fun r h => out2 h r fun r' _ => K r') ⟨rfl, hS args K hk⟩ (g0 R) vals w
    ⟨rfl, fun b hb => ⟨hR b hb, fun h => h⟩, fun b hb => hb.elim, by simp, by simp⟩ (fun g cs hgc => hg g cs hgc) ⟨hr.1, fun i l x h1 h2 => .r _ _ (hr.2 i l x h1 h2)⟩
  have fin : ∀ v w', (∃ r h' G', (out2 h' r fun r' _ => K r') ∧ Ext (g0 R).n (g0 R) w G' w' ∧ HRel G' w' h' ∧ Rel G' w' r v) →
      ∃ r, K r ∧ RRel (fun b => R b ∨ (w.heap.size ≤ b ∧ b < w'.heap.size)) w' r v ∧ Below w.heap.size w w' ∧ w.drawn ≤ w'.drawn := by
    rintro v w' ⟨r, h', G', h1, h2, h3, h4⟩
    obtain ⟨l, b, h5, h6⟩ := out2_ok h1 h3 h4
    refine ⟨l, h5, h6.mono (fun x hx => ?_) (fun _ _ => rfl), ⟨h2.os, h2.tape, h2.output, h2.size, fun x hx => h2.keep x hx (fun h => h)⟩, h2.drawn⟩
    rcases hx with hx | ⟨_, hx⟩
    · rcases h2.rd' x hx with h | h | h
      · exact .inl h
      · exact h.elim
      · exact .inr ⟨h, (h3.R x hx).1⟩
    · obtain ⟨id, sz, ex, es, hb, rfl⟩ := hx
      have hx := (h3.blk id _ hb).own rfl
      rcases h2.own _ hx with h | h
      · exact h.elim
      · exact .inr ⟨h, h3.own _ hx⟩
  rcases hrun with ⟨h1, h2⟩ | ⟨v, w', h1, h2⟩
  · exact .inl ⟨h1, h2.mono fun e w' ⟨v, he, hv⟩ => ⟨v, he, fin v w' hv⟩⟩
  · exact .inr ⟨v, w', h1, fin v w' h2⟩
theorem mkAP {g : Nat} {fn : Func} {S : PSpec} (l : List Ent) (hf : PR.funcs[g]? = some fn) (hc : fn.body = some c) (hd : drawsF (ordL l) fn = true) (hn : (fn.name == "runtime.NumGoroutine") = false)
    (hS : ∀ args K, S args K → padK args fn.ntmps fun t => CodeP l 0 c ⟨t, []⟩ (finQ l fn fun r h => out2 h r fun r' _ => K r')) : SoundA PR GL g S :=
  soundA_of (X := XC l) (T := fun args K' => padK args fn.ntmps fun t => CodeP l 0 c ⟨t, []⟩ (finQ l fn K'))
    (callOK_bodyP (l := l) hf hc hd hn fun args h K' ⟨h1, h2⟩ => by subst h1; exact h2) hS
end
end E
end Go.Proofs.YtjhognibibmeiaaGreatDoor
