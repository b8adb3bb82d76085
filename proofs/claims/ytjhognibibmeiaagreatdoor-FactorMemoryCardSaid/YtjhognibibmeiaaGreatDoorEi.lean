/-
  THE EVALUATOR, ninth part: maps, calls; an operation, whichever.
-/
import Derived.Test.YtjhognibibmeiaaGreatDoorEh
set_option linter.unusedVariables false
namespace Go.Proofs.YtjhognibibmeiaaGreatDoor
namespace E
open Go Go.RowKit

section
variable {P : Program} {X : Ctx} {w : World} {G : Gh} {h : List Blk}

theorem keyGo_ok : ∀ {cs : List LV} {vs : List Value} {k : List Int → Prop}, keyK.go cs k → Rels G w cs vs → ∃ ns : List Int, vs = ns.map (fun n => Value.int .i64 n) ∧ k ns
  | [], vs, k, hk, hr => ⟨[], List.eq_nil_of_length_eq_zero hr.1.symm, hk⟩
  | c :: cs, vs, k, hk, hr => by
    obtain ⟨x, xs, e1⟩ : ∃ x xs, vs = x :: xs := by
      cases vs with
      | nil => have := hr.1; simp at this
      | cons x xs => exact ⟨x, xs, rfl⟩
    subst e1
    have hr0 := hr.2 0 c x rfl rfl
    have hrs : Rels G w cs xs := ⟨by have := hr.1; simpa using this, fun i l z h1 h2 => hr.2 (i + 1) l z (by simpa using h1) (by simpa using h2)⟩
    unfold keyK.go at hk
    split at hk
    · rename_i h; cases h
    · rename_i n r h
      injection h with h1 h2
      subst h1 h2
      have e := rel_v hr0
      subst e
      obtain ⟨ns, h3, h4⟩ := keyGo_ok hk hrs
      exact ⟨n :: ns, by simp [h3], h4⟩
    · exact hk.elim

theorem keyK_ok {x : LV} {xv : Value} {k : List Int → Prop} (hk : keyK x k) (hr : Rel G w x xv) : ∃ ns : List Int, xv = keyVal (isAggL x) ns ∧ k ns ∧ (isAggL x = false → ns.length = 1) := by
  unfold keyK at hk
  split at hk
  · rename_i n
    obtain rfl := rel_v hr
    exact ⟨[n], rfl, hk, fun _ => rfl⟩
  · rename_i cs
    obtain ⟨vs, rfl, hvs⟩ := rel_agg hr
    obtain ⟨ns, h1, h2⟩ := keyGo_ok hk hvs
    exact ⟨ns, by simp [keyVal, isAggL, h1], h2, fun h => by cases h⟩
  · exact hk.elim

/-- '==' of two keys. -/
theorem equal_key {t : TypeId} (he : EqOK P t) (ag : Bool) (as bs : List Int) (ha : ag = true → as.length = P.cellsOf t ∧ bs.length = P.cellsOf t) (h1 : ag = false → as.length = 1 ∧ bs.length = 1)
    (hag : ag = false ↔ P.underlying t = some (.int .i64)) : (Op.equal t (keyVal ag as) (keyVal ag bs)).run P w = .ok (as == bs) w := by
  cases ag with
  | true =>
    rcases he.alt with h | h
    · have := hag.2 h; cases this
    · exact h.1 as bs w (ha rfl).1 (ha rfl).2
  | false =>
    have hu := hag.1 rfl
    obtain ⟨l1, l2⟩ := h1 rfl
    match as, bs, l1, l2 with
    | [a], [b], _, _ =>
      refine (run_equalIn_int (P := P) w 9999 t .i64 .i64 a b hu).trans ?_
      rw [beq_cons]
      simp

theorem checkKey_int {t : TypeId} (b : Bool) (n : Nat) (a : Int) (hu : P.underlying t = some (.int .i64)) : (Instr.checkKey b (n + 1) t (.int .i64 a)).run P w = .ok () w := by
  simp only [Instr.checkKey, Sem.run_bind, run_underlying hu, Result.andThen_ok]
  rfl

theorem checkKey_key {t : TypeId} (he : EqOK P t) (ag : Bool) (as : List Int) (ha : ag = true → as.length = P.cellsOf t) (hag : ag = false ↔ P.underlying t = some (.int .i64)) (b : Bool) :
    (Instr.checkKey b 10000 t (keyVal ag as)).run P w = .ok () w := by
  cases ag with
  | true =>
    rcases he.alt with h | h
    · have := hag.2 h; cases this
    · exact h.2 b as w (ha rfl)
  | false =>
    have hu := hag.1 rfl
    exact checkKey_int b 9999 _ hu

/-- The place of a key among entries. -/
def findI (key : List Int) : List (List Int × LV) → Nat → Option Nat
  | [], _ => none
  | (k, _) :: r, i => bif k == key then some i else findI key r (i + 1)

theorem beq_comm' (a b : List Int) : (a == b) = (b == a) := by
  rw [Bool.eq_iff_iff, beq_iff_eq, beq_iff_eq]; exact ⟨Eq.symm, Eq.symm⟩

theorem findAsking_ok {t : TypeId} {ag : Bool} {key : List Int} (heq : ∀ bs : List Int, bs.length = key.length → (Op.equal t (keyVal ag key) (keyVal ag bs)).run P w = .ok (key == bs) w) :
    ∀ (ms : List (List Int × LV)) (es : List MapEntry) (i : Nat), es.length = ms.length → (∀ (j : Nat) k v, ms[j]? = some (k, v) → k.length = key.length ∧ ∃ en, es[j]? = some en ∧ en.key = keyVal ag k) →
      (Instr.findAsking t (keyVal ag key) es i).run P w = .ok ((findI key ms i).bind fun j => (es[j - i]?).map fun e => (j, e.val)) w ∧ ∀ j, findI key ms i = some j → i ≤ j ∧ ∃ v, ms[j - i]? = some (key, v) ∧ findE key ms = some v := by
  intro ms
  induction ms with
  | nil =>
    intro es i hl _
    have : es = [] := List.eq_nil_of_length_eq_zero hl
    subst this
    exact ⟨rfl, by simp [findI]⟩
  | cons m ms ih =>
    intro es i hl hm
    obtain ⟨k, v⟩ := m
    cases es with
    | nil => simp at hl
    | cons e es =>
      obtain ⟨hk0, en, he0, he1⟩ := hm 0 k v rfl
      simp at he0
      subst he0
      obtain ⟨ih1, ih2⟩ := ih es (i + 1) (by simpa using hl) (fun j k v hj => by have := hm (j + 1) k v (by simpa using hj); simpa using this)
      have hq := heq k hk0
      simp only [Instr.findAsking, Sem.run_bind, he1, hq, Result.andThen_ok, findI]
      rw [beq_comm' k key]
      cases hb : key == k with
      | true =>
        have hkk : key = k := by simpa using hb
        subst hkk
        refine ⟨by simp, fun j hj => ?_⟩
        simp at hj
        subst hj
        exact ⟨Nat.le_refl _, v, by simp, by simp [findE]⟩
      | false =>
        simp only [Bool.false_eq_true, if_false, cond_false]
        refine ⟨?_, fun j hj => ?_⟩
        · rw [ih1]
          cases hf : findI key ms (i + 1) with
          | none => rfl
          | some j =>
            obtain ⟨h1, _⟩ := ih2 j hf
            simp only [Option.bind_some]
            rw [show j - i = (j - (i + 1)) + 1 by omega]
            simp
        · obtain ⟨h1, v', h2, h3⟩ := ih2 j hj
          refine ⟨by omega, v', ?_, ?_⟩
          · rw [show j - i = (j - (i + 1)) + 1 by omega]; simpa using h2
          · have hb' : (k == key) = false := by rw [beq_comm']; exact hb
            simp only [findE, hb', cond_false]
            exact h3

theorem findI_none {key : List Int} : ∀ {ms : List (List Int × LV)} {i : Nat}, findI key ms i = none → findE key ms = none
  | [], i, _ => rfl
  | (k, v) :: r, i, h => by
    simp only [findI] at h
    cases hb : k == key with
    | true => simp [hb] at h
    | false => simp only [hb, cond_false] at h; simp only [findE, hb, cond_false]; exact findI_none h

theorem findNow_agg {d : TypeDesc} (as : List Int) (hnot : ∀ k v, Instr.sameNow d (keyVal true as) (keyVal true v) = some k → False) :
    ∀ (es : List MapEntry) (i : Nat), (∀ e ∈ es, ∃ ks, e.key = keyVal true ks) → (es = [] ∧ Instr.findNow d (keyVal true as) es i = some none) ∨ (es ≠ [] ∧ Instr.findNow d (keyVal true as) es i = none) := by
  intro es i he
  cases es with
  | nil => exact .inl ⟨rfl, rfl⟩
  | cons e es =>
    obtain ⟨ks, hks⟩ := he e (by simp)
    refine .inr ⟨by simp, ?_⟩
    simp only [Instr.findNow, hks]
    cases hs : Instr.sameNow d (keyVal true as) (keyVal true ks) with
    | none => rfl
    | some b => exact (hnot b ks hs).elim

theorem findNow_int (a : Int) : ∀ (ms : List (List Int × LV)) (es : List MapEntry) (i : Nat), es.length = ms.length → (∀ (j : Nat) k v, ms[j]? = some (k, v) → k.length = 1 ∧ ∃ en, es[j]? = some en ∧ en.key = keyVal false k) →
    Instr.findNow (.int .i64) (.int .i64 a) es i = some ((findI [a] ms i).bind fun j => (es[j - i]?).map fun e => (j, e.val)) ∧ ∀ j, findI [a] ms i = some j → i ≤ j ∧ ∃ v, ms[j - i]? = some ([a], v) ∧ findE [a] ms = some v := by
  intro ms
  induction ms with
  | nil =>
    intro es i hl _
    have : es = [] := List.eq_nil_of_length_eq_zero hl
    subst this
    exact ⟨rfl, by simp [findI]⟩
  | cons m ms ih =>
    intro es i hl hm
    obtain ⟨k, v⟩ := m
    cases es with
    | nil => simp at hl
    | cons e es =>
      obtain ⟨hk0, en, he0, he1⟩ := hm 0 k v rfl
      simp at he0
      subst he0
      obtain ⟨ih1, ih2⟩ := ih es (i + 1) (by simpa using hl) (fun j k v hj => by have := hm (j + 1) k v (by simpa using hj); simpa using this)
      match k, hk0 with
      | [b], _ =>
        simp only [keyVal, cond_false, List.headD_cons] at he1
        simp only [Instr.findNow, he1, Instr.sameNow, findI, if_true]
        have hbe : ([b] == [a]) = (a == b) := by rw [Bool.eq_iff_iff, beq_iff_eq, beq_iff_eq]; exact ⟨fun h => by injection h with h; exact h.symm, fun h => by rw [h]⟩
        rw [hbe]
        cases hb : a == b with
        | true =>
          have : a = b := by simpa using hb
          subst this
          refine ⟨by simp, fun j hj => ?_⟩
          simp at hj
          subst hj
          exact ⟨Nat.le_refl _, v, by simp, by simp [findE]⟩
        | false =>
          simp only [cond_false]
          refine ⟨?_, fun j hj => ?_⟩
          · rw [ih1]
            cases hf : findI [a] ms (i + 1) with
            | none => rfl
            | some j =>
              obtain ⟨h1, _⟩ := ih2 j hf
              simp only [Option.bind_some]
              rw [show j - i = (j - (i + 1)) + 1 by omega]
              simp
          · obtain ⟨h1, v', h2, h3⟩ := ih2 j hj
            refine ⟨by omega, v', ?_, ?_⟩
            · rw [show j - i = (j - (i + 1)) + 1 by omega]; simpa using h2
            · have hb' : ([b] == [a]) = false := by rw [hbe]; exact hb
              simp only [findE, hb', cond_false]
              exact h3

/-- A key looked for among a map's entries. -/
theorem findKey_ok {t : TypeId} (he : EqOK P t) {ag : Bool} {key : List Int} (ha : ag = true → key.length = P.cellsOf t) (h1 : ag = false → key.length = 1) (hag : ag = false ↔ P.underlying t = some (.int .i64))
    (hdef : ∃ d, P.underlying t = some d ∧ (ag = true → (match d with | .struct _ | .array _ _ => true | _ => false) = true))
    (ms : List (List Int × LV)) (es : List MapEntry) (hl : es.length = ms.length) (hm : ∀ (j : Nat) k v, ms[j]? = some (k, v) → k.length = key.length ∧ ∃ en, es[j]? = some en ∧ en.key = keyVal ag k) :
    (Instr.findKey t (keyVal ag key) es).run P w = .ok ((findI key ms 0).bind fun j => (es[j]?).map fun e => (j, e.val)) w ∧ ∀ j, findI key ms 0 = some j → ∃ v, ms[j]? = some (key, v) ∧ findE key ms = some v := by
  obtain ⟨d, hu, hd⟩ := hdef
  cases ag with
  | true =>
    have heq : ∀ bs : List Int, bs.length = key.length → (Op.equal t (keyVal true key) (keyVal true bs)).run P w = .ok (key == bs) w :=
      fun bs hb => equal_key he true key bs (fun _ => ⟨ha rfl, hb.trans (ha rfl)⟩) (fun h => by cases h) hag
    obtain ⟨h2, h3⟩ := findAsking_ok heq ms es 0 hl hm
    have hd := hd rfl
    have hnow := findNow_agg (d := d) key (fun b v hs => by
      cases d <;> simp [Instr.sameNow, keyVal] at hs) es 0 (fun e hmem => by
        obtain ⟨j, hj, rfl⟩ := List.mem_iff_getElem.1 hmem
        have hj' : j < ms.length := hl ▸ hj
        obtain ⟨_, en, h4, h5⟩ := hm j ms[j].1 ms[j].2 (by rw [List.getElem?_eq_getElem hj'])
        rw [List.getElem?_eq_getElem hj] at h4
        injection h4 with h4
        exact ⟨_, by rw [h4]; exact h5⟩)
    refine ⟨?_, fun j hj => by have := h3 j hj; simpa using this.2⟩
    simp only [Instr.findKey, Sem.run_bind, run_underlying hu, Result.andThen_ok]
    rcases hnow with ⟨rfl, hn⟩ | ⟨_, hn⟩
    · rw [hn]
      have : ms = [] := List.eq_nil_of_length_eq_zero hl.symm
      subst this
      rfl
    · rw [hn]
      simpa using h2
  | false =>
    have hint := hag.1 rfl
    rw [hint] at hu
    injection hu with hu
    subst hu
    match key, h1 rfl with
    | [a], _ =>
      obtain ⟨h2, h3⟩ := findNow_int a ms es 0 hl (fun j k v hj => by have := hm j k v hj; simpa using this)
      refine ⟨?_, fun j hj => by have := h3 j hj; simpa using this.2⟩
      simp only [Instr.findKey, Sem.run_bind, run_underlying hint, Result.andThen_ok]
      have : keyVal false [a] = .int .i64 a := rfl
      rw [this, h2]
      simp

/-- What a key's type says. -/
theorem key_facts {kt : Nat} {d : TD} (hX : OK P X) (hk : X.T kt = some d) : (d.isAgg = true → ∃ d', P.underlying kt = some d' ∧ (match d' with | .struct _ | .array _ _ => true | _ => false) = true) ∧ P.cellsOf kt = d.sz := by
  have hd := hX.T _ _ hk
  refine ⟨fun ha => ⟨d.desc, hd.u, ?_⟩, ?_⟩
  · unfold TD.isAgg at ha
    exact ha
  · obtain ⟨i, z, hi, hisz, _⟩ := hd.i
    simp [Program.cellsOf, hi, hisz]
end
end E
end Go.Proofs.YtjhognibibmeiaaGreatDoor
