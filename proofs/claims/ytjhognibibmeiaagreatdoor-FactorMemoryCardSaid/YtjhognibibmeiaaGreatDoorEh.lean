/-
  THE EVALUATOR, eighth part: addresses, slices, maps; an operation, whichever.
-/
import Derived.Test.YtjhognibibmeiaaGreatDoorEg
set_option linter.unusedVariables false
namespace Go.Proofs.YtjhognibibmeiaaGreatDoor
namespace E
open Go Go.RowKit

section
variable {P : Program} {X : Ctx} {w : World} {G : Gh} {h : List Blk}

theorem fieldK_ok (hX : OK P X) {ty f : Nat} {k : Nat → TD → Prop} (hk : fieldK X ty f k) :
    ∃ (fs : Array Field) (fl : Field) (df : TD), P.underlying ty = some (.struct fs) ∧ fs[f]? = some fl ∧ Facts P fl.type df ∧ k fl.offset df := by
  obtain ⟨d, h1, hk⟩ := tdK_iff.1 hk
  have hd := hX.T _ _ h1
  split at hk
  · rename_i fs hdesc
    split at hk
    · rename_i fl hfl
      obtain ⟨df, h2, hk⟩ := tdK_iff.1 hk
      exact ⟨fs, fl, df, hdesc ▸ hd.u, hfl, hX.T _ _ h2, hk⟩
    · exact hk.elim
  · exact hk.elim

theorem idxAddrK_ok (hX : OK P X) {ty : Nat} {x : LV} {xv : Value} {i : Int} {ki : IntKind} {k : LV → Prop} (hk : idxAddrK X h ty x i k) (hh : HRel G w h) (hx : Rel G w x xv) :
    ∃ l v, k l ∧ (Instr.indexAt ty xv (.int ki i)).run P w = .ok v w ∧ Rel G w l v := by
  obtain ⟨d, h1, hk⟩ := tdK_iff.1 hk
  have hd := hX.T _ _ h1
  split at hk
  · rename_i len el id j sub hdesc hk0
    obtain ⟨hid, rfl⟩ := rel_ptr hx
    obtain ⟨de, h2, hk⟩ := tdK_iff.1 hk
    have hde := hX.T _ _ h2
    obtain ⟨hi0, hi1, hk⟩ := idxB_iff.1 hk
    refine ⟨_, _, hk, ?_, .ptr id j _ hid⟩
    simp [Instr.indexAt, asIntOf, hd.under w, hdesc, Instr.sureAddr, hi0, hi1, hde.sizeOf w, addr_add, Nat.add_assoc]
  · rename_i len el e sub hdesc hk0
    obtain ⟨b, o, val, rfl, hR, hm, hc⟩ := rel_eptr hx
    obtain ⟨de, h2, hk⟩ := tdK_iff.1 hk
    have hde := hX.T _ _ h2
    obtain ⟨hi0, hi1, hk⟩ := idxB_iff.1 hk
    refine ⟨_, _, hk, ?_, .eptr e (sub + i.toNat * de.sz) b o val hR hm hc⟩
    simp [Instr.indexAt, asIntOf, hd.under w, hdesc, Instr.sureAddr, hi0, hi1, hde.sizeOf w, addr_add, Nat.add_assoc]
  · rename_i el es hdesc hk0
    obtain ⟨de, h2, hk⟩ := tdK_iff.1 hk
    have hde := hX.T _ _ h2
    obtain ⟨hi0, hk⟩ := nnB_iff.1 hk
    obtain ⟨e, he, hk⟩ := eltK_iff.1 hk
    obtain ⟨hsz, hk⟩ := lenB_iff.1 hk
    · · ·
          have hlt := (List.getElem?_eq_some_iff.1 he).1
          have hr := rel_rd hx
          cases hr with
          | rd _ b o cap sz val hR hc hlen hm hh' =>
            have e1 : sz = de.sz := by rw [← hlen _ e he]; exact hsz
            subst e1
            refine ⟨_, _, hk, ?_, .eptr e 0 b (o + i.toNat * de.sz) (fun j => val i.toNat j) hR (fun j hj => ?_) (fun j c hc => hh' _ j e c he hc)⟩
            · have hi1 : i < (es.length : Int) := by omega
              simp [Instr.indexAt, asIntOf, hd.under w, hdesc, hi0, hi1, hde.sizeOf w, addr_add]
            · have := hm i.toNat j e he (by omega)
              rwa [Nat.add_assoc]
          | nil a cap => simp at he
  · rename_i el id off len cap hdesc hk0
    obtain ⟨hid, cp, rfl, h3, h4, _⟩ := rel_sl hx
    obtain ⟨de, h2, hk⟩ := tdK_iff.1 hk
    have hde := hX.T _ _ h2
    obtain ⟨b, hb, hk⟩ := getK_iff.1 hk
    cases b with
    | row sz ex es =>
      simp only at hk
      obtain ⟨hi0, hi1, hk⟩ := idxB_iff.1 hk
      obtain ⟨hsz, hk⟩ := lenB_iff.1 hk
      ·
        have hρ : (G.ρ id).sz = sz := (hh.blk id _ hb).2.1
        refine ⟨_, _, hk, ?_, .ptr id (off + i.toNat) 0 hid⟩
        have e1 : off * (G.ρ id).sz + i.toNat * de.sz = (off + i.toNat) * (G.ρ id).sz + 0 := by rw [hρ, hsz, Nat.add_mul]; rfl
        simp only [Instr.indexAt, asIntOf, Sem.run_bind, Sem.run_pure, Result.andThen_ok, hd.under w, hdesc]
        have hcond : 0 ≤ i ∧ i < (len : Int) := ⟨hi0, hi1⟩
        simp only [hcond, Sem.run_ite, and_self, if_true, Sem.run_bind, hde.sizeOf w, Result.andThen_ok, Sem.run_pure, addr_add, e1]
    | box cs => exact hk.elim
    | map ag kn m => exact hk.elim
    | dead => exact hk.elim
  · exact hk.elim

/-- Part of an aggregate that is a value. -/
theorem partK_val {t : Nat} {d : TD} {cs : List LV} {vs : List Value} {sub : Nat} {k : LV → Prop} (h : partK d cs sub k) (hd : Facts P t d) (hr : Rels G w cs vs) :
    ∃ l v, k l ∧ (part t vs.toArray sub).run P w = .ok v w ∧ Rel G w l v := by
  unfold partK at h
  split at h
  · rename_i ha
    obtain ⟨h1, h2⟩ := segK_iff.1 h
    have hs := rels_take (rels_drop hr sub) d.sz
    refine ⟨_, _, h2, ?_, .agg _ ((vs.drop sub).take d.sz) hs.1 hs.2⟩
    simp [part, hd.isAgg w, ha, hd.sizeOf w]
  · rename_i ha
    obtain ⟨c, h1, h2⟩ := getK_iff.1 h
    obtain ⟨x, h3, h4⟩ := rels_get hr h1
    refine ⟨c, x, h2, ?_, h4⟩
    simp [part, hd.isAgg w, ha, h3]

theorem idxK_ok (hX : OK P X) {ty : Nat} {x : LV} {xv : Value} {i : Int} {ki : IntKind} {k : LV → Prop} (hk : idxK X ty x i k) (hx : Rel G w x xv) :
    ∃ l v, k l ∧ (Instr.index ty xv (.int ki i)).run P w = .ok v w ∧ Rel G w l v := by
  obtain ⟨d, h1, hk⟩ := tdK_iff.1 hk
  have hd := hX.T _ _ h1
  split at hk
  · rename_i len el cs hdesc hk0
    obtain ⟨vs, rfl, hvs⟩ := rel_agg hx
    obtain ⟨de, h2, hk⟩ := tdK_iff.1 hk
    have hde := hX.T _ _ h2
    obtain ⟨hi0, hi1, hk⟩ := idxB_iff.1 hk
    obtain ⟨l, v, h3, h4, h5⟩ := partK_val hk hde hvs
    refine ⟨l, v, h3, ?_, h5⟩
    simp [Instr.index, asIntOf, hd.under w, hdesc, hi0, hi1, hde.sizeOf w, h4]
  · exact hk.elim

/-! ### xs[lo:hi:mx] -/
theorem boundK_ok {len cap dflt : Nat} {x : Option LV} {xv : Option Value} {code : BoundsCode} {k : Nat → Prop} (hk : boundK len x dflt k) (hle : len ≤ cap)
    (hx : (x = none ∧ xv = none) ∨ ∃ l v, x = some l ∧ xv = some v ∧ Rel G w l v) :
    (x = none ∧ xv = none ∧ k dflt) ∨ ∃ v n, xv = some v ∧ k n ∧ n ≤ len ∧ (∀ c, (Instr.sliceBound v cap c).run P w = .ok n w) ∧ ∀ cap', n ≤ cap' → ∀ c, (Instr.sliceBound v cap' c).run P w = .ok n w := by
  rcases hx with ⟨rfl, rfl⟩ | ⟨l, v, rfl, rfl, hr⟩
  · exact .inl ⟨rfl, rfl, hk⟩
  · refine .inr ?_
    unfold boundK at hk
    split at hk
    · rename_i h; cases h
    · rename_i kk i h
      injection h with h
      subst h
      obtain rfl := rel_v hr
      unfold leB at hk
      split at hk
      · rename_i hi0 hi1
        have hi0 : 0 ≤ i := by simpa using hi0
        have hi1 : i ≤ (len : Int) := by simpa using hi1
        have key : ∀ cap' : Nat, i.toNat ≤ cap' → ∀ c, (Instr.sliceBound (.int kk i) cap' c).run P w = .ok i.toNat w := by
          intro cap' hc c
          have hc1 : 0 ≤ i ∧ i ≤ (cap' : Int) := ⟨hi0, by omega⟩
          simp only [Instr.sliceBound, asIntOf, Sem.run_bind, Sem.run_pure, Result.andThen_ok, hc1, and_self, if_true]
        exact ⟨_, i.toNat, rfl, hk, by omega, key cap (by omega), key⟩
      · exact hk.elim
    · exact hk.elim

theorem sliceK_ok (hX : OK P X) {ty el : Nat} {d de : TD} {x : LV} {xv : Value} {lo hi mx : Option LV} {lov hiv mxv : Option Value} {k : LV → Prop} (hk : sliceK h de.sz x lo hi mx k)
    (hd : Facts P ty d) (hdesc : d.desc = .slice el) (hde : Facts P el de) (hh : HRel G w h) (hx : Rel G w x xv)
    (hlo : (lo = none ∧ lov = none) ∨ ∃ l v, lo = some l ∧ lov = some v ∧ Rel G w l v) (hhi : (hi = none ∧ hiv = none) ∨ ∃ l v, hi = some l ∧ hiv = some v ∧ Rel G w l v)
    (hmx : (mx = none ∧ mxv = none) ∨ ∃ l v, mx = some l ∧ mxv = some v ∧ Rel G w l v) (hok : mx = none ∨ hi ≠ none) :
    ∃ l v, k l ∧ (Instr.sliceAt ty xv lov hiv mxv).run P w = .ok v w ∧ Rel G w l v := by
  -- the bounds of a slice of so many elements, told in the model's words
  have bounds : ∀ (n cap : Nat) (kk : Nat → Nat → Nat → Prop), n ≤ cap → (boundK n mx n fun m => boundK m hi n fun u => boundK u lo 0 fun l => kk l u m) →
      ∃ l u m, kk l u m ∧ l ≤ u ∧ u ≤ n ∧ (∃ m', (Instr.sliceBounds true n cap lov hiv mxv).run P w = .ok (l, u, m') w ∧ u ≤ m' ∧ m' ≤ cap ∧ (mx = none → m' = cap) ∧ (mx ≠ none → m' = m ∧ m ≤ n)) := by
    intro n cap kk hn hb
    rcases boundK_ok (P := P) (G := G) (w := w) (code := .index) hb hn hmx with ⟨hm0, hm1, hb⟩ | ⟨mv, m, hm1, hb, hm2, hm3, _⟩
    · rcases boundK_ok (P := P) (G := G) (w := w) (code := .index) hb hn hhi with ⟨hu0, hu1, hb⟩ | ⟨uv, u, hu1, hb, hu2, hu3, _⟩
      · rcases boundK_ok (P := P) (G := G) (w := w) (code := .index) hb (Nat.le_refl n) hlo with ⟨hl0, hl1, hb⟩ | ⟨lv, l, hl1, hb, hl2, hl3, _⟩
        · refine ⟨0, n, n, hb, Nat.zero_le _, Nat.le_refl _, cap, ?_, hn, Nat.le_refl _, fun _ => rfl, fun h => absurd hm0 h⟩
          simp [Instr.sliceBounds, hm1, hu1, hl1]
        · refine ⟨l, n, n, hb, hl2, Nat.le_refl _, cap, ?_, hn, Nat.le_refl _, fun _ => rfl, fun h => absurd hm0 h⟩
          simp [Instr.sliceBounds, hm1, hu1, hl1, hl3]
      · rcases boundK_ok (P := P) (G := G) (w := w) (code := .index) hb (Nat.le_refl u) hlo with ⟨hl0, hl1, hb⟩ | ⟨lv, l, hl1, hb, hl2, hl3, _⟩
        · refine ⟨0, u, n, hb, Nat.zero_le _, hu2, cap, ?_, by omega, Nat.le_refl _, fun _ => rfl, fun h => absurd hm0 h⟩
          simp [Instr.sliceBounds, hm1, hu1, hl1, hu3]
        · refine ⟨l, u, n, hb, hl2, hu2, cap, ?_, by omega, Nat.le_refl _, fun _ => rfl, fun h => absurd hm0 h⟩
          simp [Instr.sliceBounds, hm1, hu1, hl1, hl3, hu3]
    · have hmne : mx ≠ none := by
        rcases hmx with ⟨h1, h2⟩ | ⟨l, v, h1, _⟩
        · rw [h2] at hm1; cases hm1
        · rw [h1]; simp
      rcases boundK_ok (P := P) (G := G) (w := w) (code := .index) hb (Nat.le_refl m) hhi with ⟨hu0, hu1, hb⟩ | ⟨uv, u, hu1, hb, hu2, hu3, _⟩
      · rcases hok with h | h
        · exact absurd h hmne
        · exact absurd hu0 h
      · rcases boundK_ok (P := P) (G := G) (w := w) (code := .index) hb (Nat.le_refl u) hlo with ⟨hl0, hl1, hb⟩ | ⟨lv, l, hl1, hb, hl2, hl3, _⟩
        · refine ⟨0, u, m, hb, Nat.zero_le _, by omega, m, ?_, hu2, by omega, fun h => absurd h hmne, fun _ => ⟨rfl, hm2⟩⟩
          simp [Instr.sliceBounds, hm1, hu1, hl1, hu3, hm3]
        · refine ⟨l, u, m, hb, hl2, by omega, m, ?_, hu2, by omega, fun h => absurd h hmne, fun _ => ⟨rfl, hm2⟩⟩
          simp [Instr.sliceBounds, hm1, hu1, hl1, hl3, hu3, hm3]
  have hrun : ∀ (A : Option Addr) (n cap l u m : Nat), (Instr.sliceBounds true n cap lov hiv mxv).run P w = .ok (l, u, m) w →
      (Instr.sliceAt ty (.slice A n cap) lov hiv mxv).run P w = .ok (.slice (if m = l then A else A.map (·.add (l * de.sz))) (u - l) (m - l)) w := by
    intro A n cap l u m hb
    simp [Instr.sliceAt, hd.under w, hdesc, Instr.slice, hb, hde.sizeOf w]
  unfold sliceK at hk
  split at hk
  · rename_i es
    have hr := rel_rd hx
    have hcases : ∃ A cap, xv = .slice A es.length cap ∧ es.length ≤ cap ∧ (es = [] ∨ ∃ (b o sz : Nat) (val : Nat → Nat → Value), A = some ⟨b, o, none⟩ ∧ G.R b ∧ (∀ (i : Nat) e, es[i]? = some e → e.length = sz) ∧
        (∀ (i j : Nat) e, es[i]? = some e → j < sz → At w b (o + (i * sz + j)) (val i j)) ∧ ∀ (i j : Nat) e c, es[i]? = some e → e[j]? = some c → RRel G.R w c (val i j)) := by
      cases hr with
      | rd _ b o cap sz val hR hc hlen hm hh' => exact ⟨_, cap, rfl, hc, .inr ⟨b, o, sz, val, rfl, hR, hlen, hm, hh'⟩⟩
      | nil a cap => exact ⟨a, cap, rfl, by simp, .inl rfl⟩
    obtain ⟨A, cap, rfl, hcap, hcs⟩ := hcases
    obtain ⟨l, u, m, ⟨hall, hk⟩, h1, h2, m', h3, h4, h5, _, _⟩ := bounds es.length cap _ hcap hk
    refine ⟨_, _, hk, hrun A _ _ _ _ _ h3, .r _ _ ?_⟩
    by_cases hz : u - l = 0
    · rw [hz]; simp only [List.take_zero]; exact .nil _ _
    · rcases hcs with rfl | ⟨b, o, sz, val, rfl, hR, hlen, hm, hc⟩
      · simp at h2; omega
      · have hml : m' ≠ l := by omega
        rw [if_neg hml]
        simp only [Option.map_some, addr_add]
        have hl0 : l < es.length := by omega
        have e1 : sz = de.sz := by rw [← hlen l _ (List.getElem?_eq_getElem hl0)]; exact hall _ (List.getElem_mem hl0)
        subst e1
        have hget : ∀ (i : Nat) e, ((es.drop l).take (u - l))[i]? = some e → es[l + i]? = some e := by
          intro i e he
          rw [List.getElem?_take] at he
          split at he
          · rwa [List.getElem?_drop] at he
          · cases he
        have hlen2 : ((es.drop l).take (u - l)).length = u - l := by simp; omega
        have := RRel.rd (R := G.R) (w := w) ((es.drop l).take (u - l)) b (o + l * de.sz) (m' - l) de.sz (fun i j => val (l + i) j) hR (by rw [hlen2]; omega) (fun i e he => hlen _ e (hget i e he))
          (fun i j e he hj => by
            have h6 := hm (l + i) j e (hget i e he) hj
            have e2 : o + l * de.sz + (i * de.sz + j) = o + ((l + i) * de.sz + j) := by rw [Nat.add_mul]; omega
            rwa [e2]) (fun i j e c he hc' => hc _ j e c (hget i e he) hc')
        rwa [hlen2] at this
  · obtain rfl := rel_v hx
    obtain ⟨l, u, m, hk, h1, h2, m', h3, h4, h5, _, _⟩ := bounds 0 0 (fun _ _ _ => k (.rd [])) (Nat.le_refl _) hk
    refine ⟨_, _, hk, hrun none _ _ _ _ _ h3, .r _ _ ?_⟩
    have hul : u - l = 0 := by omega
    rw [hul]
    exact .nil _ _
  · rename_i id off len cap
    obtain ⟨hid, cp, rfl, h6, h7, h8⟩ := rel_sl hx
    obtain ⟨b, hb, hk⟩ := getK_iff.1 hk
    obtain ⟨l, u, m, hk, h1, h2, m', h3, h4, h5, h9, h10⟩ := bounds len cp _ h6 hk
    have hr := hrun (some ⟨(G.ρ id).b, off * (G.ρ id).sz, none⟩) _ _ _ _ _ h3
    cases b with
    | row sz ex es =>
      have hρ : (G.ρ id).sz = sz := (hh.blk id _ hb).2.1
      simp only at hk
      obtain ⟨hsz, hk⟩ := lenB_iff.1 hk
      unfold pickB at hk
      split at hk
      · rename_i hz
        have hz : u - l = 0 := by simpa using hz
        refine ⟨_, _, hk, hr, .r _ _ ?_⟩
        rw [hz]
        exact .nil _ _
      · rename_i hz
        have hz : u - l ≠ 0 := by simpa using hz
        refine ⟨_, _, hk, hr, ?_⟩
        have hml : m' ≠ l := by omega
        rw [if_neg hml]
        simp only [Option.map_some, addr_add]
        have e1 : off * (G.ρ id).sz + l * de.sz = (off + l) * (G.ρ id).sz := by rw [hρ, hsz, Nat.add_mul]
        rw [e1]
        refine .sl id (off + l) (u - l) _ (m' - l) hid (by omega) (by omega) (fun c hc => ?_)
        cases hmxe : mx with
        | none =>
          rw [hmxe] at hc
          have := h9 hmxe
          cases cap with
          | none => simp at hc
          | some c0 =>
            simp at hc
            have := h8 c0 rfl
            omega
        | some mm =>
          rw [hmxe] at hc
          have := (h10 (by rw [hmxe]; simp)).1
          simp at hc
          omega
    | box cs => simp at hk
    | map ag kn m => simp at hk
    | dead => simp at hk
  · exact hk.elim
end
end E
end Go.Proofs.YtjhognibibmeiaaGreatDoor
