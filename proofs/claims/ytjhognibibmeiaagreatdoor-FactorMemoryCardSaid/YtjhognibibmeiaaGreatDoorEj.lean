/-
  THE EVALUATOR, tenth part: an operation, whichever; a region in its own order.
-/
import Derived.Test.YtjhognibibmeiaaGreatDoorEi
set_option linter.unusedVariables false
namespace Go.Proofs.YtjhognibibmeiaaGreatDoor
namespace E
open Go Go.RowKit

section
variable {P : Program} {X : Ctx} {w : World} {G : Gh} {h : List Blk}

theorem keyTy_ok {kt : Nat} {dk : TD} {ag : Bool} {key : List Int} (hX : OK P X) (hT : X.T kt = some dk) (hk : keyTy dk ag = true) (hsz : dk.sz = key.length) :
    (ag = true → key.length = P.cellsOf kt) ∧ (ag = false ↔ P.underlying kt = some (.int .i64)) ∧
      ∃ d, P.underlying kt = some d ∧ (ag = true → (match d with | .struct _ | .array _ _ => true | _ => false) = true) := by
  have hd := hX.T _ _ hT
  have hc := (key_facts hX hT).2
  refine ⟨fun _ => by rw [hc, hsz], ?_, dk.desc, hd.u, ?_⟩
  · unfold keyTy at hk
    split at hk
    · rename_i hdesc
      rw [hd.u, hdesc]
      simp at hk
      simp [hk]
    · rename_i hdesc
      rw [hd.u, hdesc]
      simp [hk]
    · rename_i hdesc
      rw [hd.u, hdesc]
      simp [hk]
    · cases hk
  · intro ha
    subst ha
    unfold keyTy at hk
    split at hk
    · cases hk
    · rename_i hdesc; rw [hdesc]
    · rename_i hdesc; rw [hdesc]
    · cases hk

theorem heap_at {w : World} {b : Nat} {o : Obj} (h : w.heap[b]? = some o) : b < w.heap.size := (Array.getElem?_eq_some_iff.1 h).1

theorem run_getObj_map {b : Nat} {es : Array MapEntry} {clock : Nat} (h : w.heap[b]? = some (.map es clock)) : (getObj b).run P w = .ok (.map es clock) w := by
  simp [getObj, Sem.run, h]

theorem run_setObj_map {b : Nat} {es : Array MapEntry} {clock : Nat} (o : Obj) (h : w.heap[b]? = some (.map es clock)) : (setObj b o).run P w = .ok () { w with heap := w.heap.setIfInBounds b o } := by
  simp [setObj, Sem.run, h]

theorem wrote_setObj {b : Nat} (o : Obj) : Wrote w { w with heap := w.heap.setIfInBounds b o } b :=
  ⟨rfl, rfl, rfl, Nat.le_refl _, by simp, fun k hk => by simp [Array.getElem?_setIfInBounds, Ne.symm hk]⟩

theorem same_ints (n : Nat) (a b : List Int) (h : a = b) (ag : Bool) : Instr.sameBits (n + 2) (keyVal ag a) (keyVal ag b) = true := by
  subst h
  cases ag with
  | false => simp [keyVal, Instr.sameBits]
  | true =>
    simp only [keyVal, cond_true, Instr.sameBits]
    simp
    intro x y hxy
    have : ∀ (l : List Int), (x, y) ∈ (l.map fun n => Value.int .i64 n).zip (l.map fun n => Value.int .i64 n) → Instr.sameBits (n + 1) x y = true := by
      intro l
      induction l with
      | nil => intro h; simp at h
      | cons c l ih =>
        intro h
        simp at h
        rcases h with ⟨rfl, rfl⟩ | h
        · simp [Instr.sameBits]
        · exact ih (by simpa using h)
    exact this a hxy

theorem putE_spec (key : List Int) (v : LV) : ∀ (ms : List (List Int × LV)) (i : Nat),
    (findI key ms i = none → putE key v ms = ms ++ [(key, v)]) ∧ ∀ j, findI key ms i = some j → putE key v ms = ms.set (j - i) (key, v)
  | [], i => by simp [findI, putE]
  | (k, x) :: r, i => by
    obtain ⟨h1, h2⟩ := putE_spec key v r (i + 1)
    simp only [findI, putE]
    cases hb : k == key with
    | true => simp
    | false =>
      simp only [cond_false]
      refine ⟨fun h => by rw [h1 h]; rfl, fun j hj => ?_⟩
      rw [h2 j hj]
      have : i + 1 ≤ j := by
        have : ∀ (ms : List (List Int × LV)) (i j : Nat), findI key ms i = some j → i ≤ j := by
          intro ms
          induction ms with
          | nil => intro i j h; simp [findI] at h
          | cons m ms ih =>
            intro i j h
            obtain ⟨k, x⟩ := m
            simp only [findI] at h
            cases hb : k == key with
            | true => simp [hb] at h; omega
            | false => simp only [hb, cond_false] at h; have := ih _ _ h; omega
        exact this r (i + 1) j hj
      rw [show j - i = (j - (i + 1)) + 1 by omega]
      rfl

theorem findI_lt {key : List Int} : ∀ {ms : List (List Int × LV)} {i j : Nat}, findI key ms i = some j → i ≤ j ∧ j < i + ms.length
  | [], i, j, h => by simp [findI] at h
  | (k, x) :: r, i, j, h => by
    simp only [findI] at h
    cases hb : k == key with
    | true => simp [hb] at h; simp; omega
    | false =>
      simp only [hb, cond_false] at h
      have := findI_lt h
      simp
      omega

/-- m[k] = v. -/
theorem mapUpdate_ok (hX : OK P X) {ty kty et : Nat} {d dk : TD} {id kn : Nat} {ag : Bool} {ms : List (List Int × LV)} {v : LV} {key : List Int} {vv : Value} (hd : Facts P ty d) (hdesc : d.desc = .map kty et)
    (hT : X.T kty = some dk) (hh : HRel G w h) (hb : h[id]? = some (.map ag kn ms)) (hkn : kn = key.length) (hkt : keyTy dk ag = true) (hsz : dk.sz = key.length) (heq : X.eq kty = true) (h1 : ag = false → key.length = 1)
    (hv : Rel G w v vv) :
    ∃ w', (Instr.mapUpdate ty (.map (some (G.ρ id).b)) (keyVal ag key) vv).run P w = .ok () w' ∧ Ext G.n G w G w' ∧ HRel G w' (h.set id (.map ag kn (putE key v ms))) := by
  obtain ⟨hag1, hag2, hdef⟩ := keyTy_ok hX hT hkt hsz
  have he := hX.eq _ heq
  obtain ⟨ho, es, clock, hes, hsize, hms⟩ := hh.blk id _ hb
  obtain ⟨hf1, hf2⟩ := findKey_ok (P := P) (w := w) he hag1 h1 hag2 hdef ms es.toList (by simpa using hsize) (fun j k x hj => by
    obtain ⟨h2, en, h3, h4, _⟩ := hms j k x hj
    exact ⟨h2.trans hkn, en, by simpa using h3, h4⟩)
  have hck := checkKey_key (P := P) (w := w) he ag key hag1 hag2 false
  cases hfi : findI key ms 0 with
  | none =>
    rw [hfi] at hf1
    simp only [Option.bind_none] at hf1
    refine ⟨{ w with heap := w.heap.setIfInBounds (G.ρ id).b (.map (es.push { key := keyVal ag key, val := vv, born := clock }) (clock + 1)) }, ?_, ?_⟩
    · simp only [Instr.mapUpdate, Sem.run_bind, hd.under w, hdesc, Result.andThen_ok, run_getObj_map hes, hck, hf1, run_setObj_map _ hes]
    · have hwr : Wrote w _ (G.ρ id).b := wrote_setObj (w := w) (.map (es.push { key := keyVal ag key, val := vv, born := clock }) (clock + 1))
      have hext := Ext.wrote (G := G) hwr ho
      refine ⟨hext, hh.wrote hb rfl hwr ?_⟩
      rw [(putE_spec key v ms 0).1 hfi]
      refine ⟨ho, _, _, by simp [heap_at hes]; exact ⟨rfl, rfl⟩, by simp [hsize], fun i k x hi => ?_⟩
      rcases Nat.lt_or_ge i ms.length with hlt | hge
      · rw [List.getElem?_append_left hlt] at hi
        obtain ⟨h2, en, h3, h4, h5⟩ := hms i k x hi
        refine ⟨h2, en, ?_, h4, h5.ext hh hext⟩
        rw [Array.getElem?_push, if_neg (by omega)]
        exact h3
      · have : i = ms.length := by
          have := (List.getElem?_eq_some_iff.1 hi).1
          simp at this
          omega
        subst this
        simp at hi
        obtain ⟨rfl, rfl⟩ := hi
        refine ⟨hkn.symm, _, by rw [Array.getElem?_push, if_pos hsize.symm], rfl, hv.ext hh hext⟩
  | some j =>
    rw [hfi] at hf1
    obtain ⟨x, h2, _⟩ := hf2 j hfi
    obtain ⟨_, en, h3, h4, _⟩ := hms j key x h2
    have h3' : es.toList[j]? = some en := by simpa using h3
    simp only [Option.bind_some, h3', Option.map_some] at hf1
    have hjlt : j < es.size := (Array.getElem?_eq_some_iff.1 h3).1
    refine ⟨{ w with heap := w.heap.setIfInBounds (G.ρ id).b (.map (es.modify j fun e => { e with key := keyVal ag key, val := vv }) clock) }, ?_, ?_⟩
    · have hst : Instr.sameBits 10000 (keyVal ag key) (keyVal ag key) = true := same_ints 9998 key key rfl ag
      simp only [Instr.mapUpdate, Sem.run_bind, hd.under w, hdesc, Result.andThen_ok, run_getObj_map hes, hck, hf1, h3, Option.map_some, Option.getD_some, h4, Instr.keyThatStays, hst, if_true, Sem.run_pure, run_setObj_map _ hes]
    · have hwr : Wrote w _ (G.ρ id).b := wrote_setObj (w := w) (.map (es.modify j fun e => { e with key := keyVal ag key, val := vv }) clock)
      have hext := Ext.wrote (G := G) hwr ho
      refine ⟨hext, hh.wrote hb rfl hwr ?_⟩
      rw [(putE_spec key v ms 0).2 j hfi, Nat.sub_zero]
      refine ⟨ho, _, _, by simp [heap_at hes]; exact ⟨rfl, rfl⟩, by simp [hsize], fun i k y hi => ?_⟩
      by_cases hij : j = i
      · subst hij
        have hlt : j < ms.length := by omega
        rw [List.getElem?_set_self hlt] at hi
        injection hi with hi
        injection hi with hi1 hi2
        subst hi1 hi2
        refine ⟨hkn.symm, _, by rw [Array.getElem?_modify, if_pos rfl, h3]; rfl, rfl, hv.ext hh hext⟩
      · rw [List.getElem?_set_ne hij] at hi
        obtain ⟨h5, en', h6, h7, h8⟩ := hms i k y hi
        refine ⟨h5, en', ?_, h7, h8.ext hh hext⟩
        rw [Array.getElem?_modify, if_neg hij]
        exact h6

/-- v, ok := m[k]. -/
theorem lookup_ok (hX : OK P X) {ty kt et : Nat} {d dk de : TD} {id kn : Nat} {ag ok : Bool} {ms : List (List Int × LV)} {key : List Int} {z : Value} (hd : Facts P ty d) (hdesc : d.desc = .map kt et)
    (hT : X.T kt = some dk) (hde : Facts P et de) (hea : de.isAgg = false) (hz : de.zero = [z]) (hh : HRel G w h) (hb : h[id]? = some (.map ag kn ms)) (hkn : kn = key.length) (hkt : keyTy dk ag = true) (hsz : dk.sz = key.length)
    (heq : X.eq kt = true) (h1 : ag = false → key.length = 1) :
    ∃ v l, (findE key ms = some l ∨ (findE key ms = none ∧ l = .v z)) ∧ Rel G w l v ∧
      (Instr.lookup ty (.map (some (G.ρ id).b)) (keyVal ag key) ok).run P w = .ok (if ok then .tuple #[v, .bool (findE key ms).isSome] else v) w := by
  obtain ⟨hag1, hag2, hdef⟩ := keyTy_ok hX hT hkt hsz
  have he := hX.eq _ heq
  obtain ⟨ho, es, clock, hes, hsize, hms⟩ := hh.blk id _ hb
  obtain ⟨hf1, hf2⟩ := findKey_ok (P := P) (w := w) he hag1 h1 hag2 hdef ms es.toList (by simpa using hsize) (fun j k x hj => by
    obtain ⟨h2, en, h3, h4, _⟩ := hms j k x hj
    exact ⟨h2.trans hkn, en, by simpa using h3, h4⟩)
  have hck := checkKey_key (P := P) (w := w) he ag key hag1 hag2 es.isEmpty
  obtain ⟨zv, hz1, hz2⟩ := hde.zeroV w
  have hzv : zv = z := by
    rw [hz] at hz2
    have hone := hde.one
    rw [hz] at hone
    simp at hone
    cases zv with
    | agg cs =>
      simp [Value.cells] at hz2
      obtain ⟨i, zz, hi, _, _, hiz, hzc⟩ := hde.i
      have : zz = .agg cs := by
        have := hz1
        simp [zeroValue, typeInfo, hi, hiz] at this
        exact this
      -- an aggregate of one cell cannot be told from its cell by its cells alone: the type is none
      exact absurd hde.scalar (by simp [hea, this, hiz, hi])
    | _ => simpa [Value.cells] using hz2
  subst hzv
  cases hfi : findI key ms 0 with
  | none =>
    rw [hfi] at hf1
    simp only [Option.bind_none] at hf1
    have hfe := findI_none hfi
    refine ⟨zv, .v zv, .inr ⟨hfe, rfl⟩, .r _ _ (.v _), ?_⟩
    simp only [Instr.lookup, Sem.run_bind, hd.under w, hdesc, Result.andThen_ok, run_getObj_map hes, Sem.run_pure, hck, hf1, hz1]
    rw [hfe]
    cases ok <;> simp
  | some j =>
    rw [hfi] at hf1
    obtain ⟨x, h2, h2e⟩ := hf2 j hfi
    obtain ⟨_, en, h3, h4, h5⟩ := hms j key x h2
    have h3' : es.toList[j]? = some en := by simpa using h3
    simp only [Option.bind_some, h3', Option.map_some] at hf1
    refine ⟨en.val, x, .inl h2e, h5, ?_⟩
    simp only [Instr.lookup, Sem.run_bind, hd.under w, hdesc, Result.andThen_ok, run_getObj_map hes, Sem.run_pure, hck, hf1]
    rw [h2e]
    cases ok <;> simp
end
end E
end Go.Proofs.YtjhognibibmeiaaGreatDoor
