/-
  THE EVALUATOR, eighteenth part: each order of a region that is allowed comes to the same.
-/
import Derived.Test.YtjhognibibmeiaaGreatDoorEr
set_option linter.unusedVariables false
namespace Go.Proofs.YtjhognibibmeiaaGreatDoor
namespace E
open Go Go.RowKit

/-- Is an operation to be done? -/
def grdK (ops : List Oper) (t : List LV) (g : Option (Nat × Bool)) (k : Bool → Prop) : Prop :=
  match g with
  | none => k true
  | some (j, want) => getK ops j fun oj =>
    match oj.dst with
    | none => False
    | some d => getK t d fun g =>
      match g with
      | .v (.bool b) => k (b == want)
      | .v (.tuple _) => k false
      | _ => False

def gV (X : Ctx) (ops : List Oper) (o : Oper) (t : List LV) : Fn2 := fun h K => grdK ops t o.guard fun r => pickB r (opVal X t h o.op K) (K (.v undefV) h)

def operK (X : Ctx) (ops : List Oper) (o : Oper) (s : St) (k : St → Prop) : Prop := gV X ops o s.t s.h fun v h' => putK s.t o.dst v fun t' => k ⟨t', h'⟩

section
variable {X : Ctx} {ops : List Oper} {t t' : List LV} {q : Nat → Nat} {aq : Nat}

theorem opers_cons {o : Oper} {r : List Oper} {s : St} {k : St → Prop} : opers X ops (o :: r) s k ↔ operK X ops o s fun s' => opers X ops r s' k := by
  obtain ⟨t, h⟩ := s
  unfold operK gV grdK
  conv => lhs; unfold opers
  cases hg : o.guard with
  | none => exact Iff.rfl
  | some jw =>
    obtain ⟨j, want⟩ := jw
    simp only []
    rw [getK_iff, getK_iff]
    refine ⟨fun ⟨oj, h1, h2⟩ => ⟨oj, h1, ?_⟩, fun ⟨oj, h1, h2⟩ => ⟨oj, h1, ?_⟩⟩
    · cases hd : oj.dst with
      | none => simp [hd] at h2
      | some d =>
        simp only [hd] at h2 ⊢
        obtain ⟨g, h3, h4⟩ := getK_iff.1 h2
        refine getK_iff.2 ⟨g, h3, ?_⟩
        split at h4
        · exact h4
        · exact h4
        · exact h4.elim
    · cases hd : oj.dst with
      | none => simp [hd] at h2
      | some d =>
        simp only [hd] at h2 ⊢
        obtain ⟨g, h3, h4⟩ := getK_iff.1 h2
        refine getK_iff.2 ⟨g, h3, ?_⟩
        split at h4
        · exact h4
        · exact h4
        · exact h4.elim

theorem Fun1.grd {g : Option (Nat × Bool)} : Fun1 (grdK ops t g) := by
  intro k hk
  unfold grdK at hk
  split at hk
  · exact ⟨_, hk, fun k' h' => h'⟩
  · rename_i j want
    obtain ⟨oj, h1, hk⟩ := getK_iff.1 hk
    split at hk
    · exact hk.elim
    · rename_i d hd
      obtain ⟨g, h3, hk⟩ := getK_iff.1 hk
      split at hk
      · refine ⟨_, hk, fun k' h' => ?_⟩
        unfold grdK
        refine getK_iff.2 ⟨oj, h1, ?_⟩
        simp only [hd]
        exact getK_iff.2 ⟨_, h3, h'⟩
      · refine ⟨_, hk, fun k' h' => ?_⟩
        unfold grdK
        refine getK_iff.2 ⟨oj, h1, ?_⟩
        simp only [hd]
        exact getK_iff.2 ⟨_, h3, h'⟩
      · exact hk.elim

theorem gV_cls (hq : ∀ g, CSpec (q g) (X.C g)) (ha : ∀ g, CSpec aq (X.C g)) (o : Oper) (t : List LV) : IsC (cls q aq o.op) (gV X ops o t) := by
  have h := cls_ok (t := t) hq ha o.op
  refine ⟨fun hc => ?_, fun hc => ?_, fun hc => ?_, fun hc => ?_⟩
  · obtain ⟨F1, h1, h2⟩ := h.1 hc
    refine ⟨fun k => grdK ops t o.guard fun r => pickB r (F1 k) (k (.v undefV)), Fun1.bind (G := fun r k => pickB r (F1 k) (k (.v undefV))) Fun1.grd fun r => Fun1.pick h1 (Fun1.pure _), fun hp K => ?_⟩
    have : ∀ r, pickB r (opVal X t hp o.op K) (K (.v undefV) hp) ↔ pickB r (F1 fun v => K v hp) (K (.v undefV) hp) := by
      intro r
      cases r
      · exact Iff.rfl
      · exact h2 hp K
    unfold gV
    simp only [this]
  · refine IsR.bind (F := grdK ops t o.guard) (G := fun r hp K => pickB r (opVal X t hp o.op K) (K (LV.v undefV) hp)) Fun1.grd fun r => ?_
    cases r
    · exact (IsP.of (Fun1.pure (LV.v undefV))).r
    · exact h.2.1 hc
  · refine IsA.bind (F := grdK ops t o.guard) (G := fun r hp K => pickB r (opVal X t hp o.op K) (K (LV.v undefV) hp)) Fun1.grd fun r => ?_
    cases r
    · exact (IsP.of (Fun1.pure (LV.v undefV))).r.a
    · exact h.2.2.1 hc
  · refine IsF.bind (F := grdK ops t o.guard) (G := fun r hp K => pickB r (opVal X t hp o.op K) (K (LV.v undefV) hp)) Fun1.grd fun r => ?_
    cases r
    · exact (IsP.of (Fun1.pure (LV.v undefV))).r.a.f
    · exact h.2.2.2 hc

def putL (t : List LV) (dst : Option Nat) (v : LV) : List LV :=
  match dst with
  | none => t
  | some d => t.set d v
def putOK (t : List LV) (dst : Option Nat) : Prop := ∀ d, dst = some d → d < t.length
theorem putK_iff {dst : Option Nat} {v : LV} {k : List LV → Prop} : putK t dst v k ↔ putOK t dst ∧ k (putL t dst v) := by
  cases dst with
  | none => exact ⟨fun h => ⟨(fun d hd => by cases hd), h⟩, fun h => h.2⟩
  | some d =>
    show setK t d v k ↔ _
    rw [setK_iff]
    exact ⟨fun h => ⟨fun e he => by injection he with he; exact he ▸ h.1, h.2⟩, fun h => ⟨h.1 d rfl, h.2⟩⟩
theorem putL_length {dst : Option Nat} {v : LV} : (putL t dst v).length = t.length := by
  cases dst <;> simp [putL]
theorem putOK_put {d e : Option Nat} {v : LV} : putOK (putL t d v) e ↔ putOK t e := by
  unfold putOK; rw [putL_length]
theorem putL_comm {d e : Option Nat} {v u : LV} (h : ∀ x, d = some x → e ≠ some x) : putL (putL t d v) e u = putL (putL t e u) d v := by
  cases d with
  | none => rfl
  | some d =>
    cases e with
    | none => rfl
    | some e =>
      have hne : d ≠ e := fun he => h d rfl (he ▸ rfl)
      simp only [putL]
      rw [List.set_comm _ _ hne]
theorem putL_get {d : Option Nat} {v : LV} {i : Nat} (h : ∀ x, d = some x → x ≠ i) : (putL t d v)[i]? = t[i]? := by
  cases d with
  | none => rfl
  | some d => simp [putL, List.getElem?_set_ne (h d rfl)]

theorem gV_congr {opsA : Array Oper} {o : Oper} (hc : cls q aq o.op ≤ 3) (h : ∀ i, i ∈ o.looksAt opsA → t[i]? = t'[i]?) {hp : List Blk} {K : LV → List Blk → Prop} :
    gV X opsA.toList o t hp K ↔ gV X opsA.toList o t' hp K := by
  have h1 : opVal X t hp o.op K ↔ opVal X t' hp o.op K := op_congr hc fun i hi => h i (List.mem_append_left _ (List.mem_filterMap.2 ⟨.tmp i, by simpa using hi, rfl⟩))
  have h2 : ∀ k, grdK opsA.toList t o.guard k ↔ grdK opsA.toList t' o.guard k := by
    intro k
    unfold grdK
    cases hg : o.guard with
    | none => exact Iff.rfl
    | some jw =>
      obtain ⟨j, want⟩ := jw
      simp only []
      have hoj : ∀ oj, opsA.toList[j]? = some oj → ∀ d, oj.dst = some d → t[d]? = t'[d]? := by
        intro oj hj d hd
        refine h d (List.mem_append_right _ ?_)
        have : opsA[j]? = some oj := by simpa using hj
        simp [hg, this, hd]
      rw [getK_iff, getK_iff]
      refine ⟨fun ⟨oj, h1, h2⟩ => ⟨oj, h1, ?_⟩, fun ⟨oj, h1, h2⟩ => ⟨oj, h1, ?_⟩⟩
      · cases hd : oj.dst with
        | none => simp [hd] at h2
        | some d =>
          simp only [hd] at h2 ⊢
          obtain ⟨g, h3, h4⟩ := getK_iff.1 h2
          exact getK_iff.2 ⟨g, (hoj oj h1 d hd) ▸ h3, h4⟩
      · cases hd : oj.dst with
        | none => simp [hd] at h2
        | some d =>
          simp only [hd] at h2 ⊢
          obtain ⟨g, h3, h4⟩ := getK_iff.1 h2
          exact getK_iff.2 ⟨g, (hoj oj h1 d hd).symm ▸ h3, h4⟩
  unfold gV
  rw [h2]
  have : ∀ r, pickB r (opVal X t hp o.op K) (K (.v undefV) hp) ↔ pickB r (opVal X t' hp o.op K) (K (.v undefV) hp) := by
    intro r
    cases r
    · exact Iff.rfl
    · exact h1
  simp only [this]

/-- May i, which stands behind j, go ahead of it? -/
def comm (cj ci : Nat) : Bool := (Nat.beq cj 0 && Nat.ble ci 3) || (Nat.beq ci 0 && Nat.ble cj 3) || (Nat.ble cj 1 && Nat.ble ci 2)

theorem swap (hq : ∀ g, CSpec (q g) (X.C g)) (ha : ∀ g, CSpec aq (X.C g)) {opsA : Array Oper} {oj oi : Oper} (hap : oj.apart opsA oi = true) (hc : comm (cls q aq oj.op) (cls q aq oi.op) = true)
    {s : St} {k : St → Prop} (H : operK X opsA.toList oj s fun s1 => operK X opsA.toList oi s1 k) : operK X opsA.toList oi s fun s1 => operK X opsA.toList oj s1 k := by
  obtain ⟨t, h⟩ := s
  obtain ⟨a1, a2, a3⟩ := Oper.apart_spec hap
  have hcj : cls q aq oj.op ≤ 3 := by
    simp only [comm, Bool.or_eq_true, Bool.and_eq_true, Nat.beq_eq, Nat.ble_eq] at hc
    omega
  have hci : cls q aq oi.op ≤ 3 := by
    simp only [comm, Bool.or_eq_true, Bool.and_eq_true, Nat.beq_eq, Nat.ble_eq] at hc
    omega
  have Cj := gV_cls (ops := opsA.toList) hq ha oj t
  have Ci := gV_cls (ops := opsA.toList) hq ha oi t
  have ei : ∀ v hp K, gV X opsA.toList oi (putL t oj.dst v) hp K ↔ gV X opsA.toList oi t hp K := fun v hp K => gV_congr hci fun i hi => putL_get fun x hx e => a1 x hx (e ▸ hi)
  have ej : ∀ v hp K, gV X opsA.toList oj (putL t oi.dst v) hp K ↔ gV X opsA.toList oj t hp K := fun v hp K => gV_congr hcj fun i hi => putL_get fun x hx e => a3 x hx (e ▸ hi)
  unfold operK at H ⊢
  simp only at H ⊢
  have fin : ∀ v u hp, putOK t oj.dst → putK (putL t oj.dst v) oi.dst u (fun t2 => k ⟨t2, hp⟩) → putOK t oi.dst ∧ putK (putL t oi.dst u) oj.dst v fun t2 => k ⟨t2, hp⟩ := by
    intro v u hp h1 h2
    obtain ⟨h3, h4⟩ := putK_iff.1 h2
    rw [putL_comm a2] at h4
    exact ⟨putOK_put.1 h3, putK_iff.2 ⟨putOK_put.2 h1, h4⟩⟩
  simp only [comm, Bool.or_eq_true, Bool.and_eq_true, Nat.beq_eq, Nat.ble_eq] at hc
  rcases hc with (⟨c1, c2⟩ | ⟨c1, c2⟩) | ⟨c1, c2⟩
  · -- j looks at no memory
    obtain ⟨F, hF1, hF2⟩ := Cj.1 c1
    obtain ⟨v, h1, h2⟩ := hF1 _ ((hF2 _ _).1 H)
    obtain ⟨h3, h4⟩ := putK_iff.1 h1
    obtain ⟨u, hp, h5, h6⟩ := Ci.2.2.2 c2 _ _ ((ei _ _ _).1 h4)
    obtain ⟨h7, h8⟩ := fin v u hp h3 h5
    refine h6 _ (putK_iff.2 ⟨h7, (ej _ _ _).2 ((hF2 _ _).2 (h2 _ h8))⟩)
  · obtain ⟨v, hp, h1, h2⟩ := Cj.2.2.2 c2 _ _ H
    obtain ⟨h3, h4⟩ := putK_iff.1 h1
    obtain ⟨F, hF1, hF2⟩ := Ci.1 c1
    obtain ⟨u, h5, h6⟩ := hF1 _ ((hF2 _ _).1 ((ei _ _ _).1 h4))
    obtain ⟨h7, h8⟩ := fin v u hp h3 h5
    exact (hF2 _ _).2 (h6 _ (putK_iff.2 ⟨h7, (ej _ _ _).2 (h2 _ h8)⟩))
  · obtain ⟨v, h1, h2⟩ := Cj.2.1 c1 _ _ H
    obtain ⟨h3, h4⟩ := putK_iff.1 h1
    obtain ⟨u, bs, h5, h6⟩ := Ci.2.2.1 c2 _ _ ((ei _ _ _).1 h4)
    obtain ⟨h7, h8⟩ := fin v u _ h3 h5
    exact h6 _ (putK_iff.2 ⟨h7, (ej _ _ _).2 (h2 bs _ h8)⟩)

theorem operK_mono (hq : ∀ g, CSpec (q g) (X.C g)) (ha : ∀ g, CSpec aq (X.C g)) {o : Oper} (hc : cls q aq o.op ≤ 3) {s : St} {k k' : St → Prop} (H : operK X ops o s k) (hk : ∀ s, k s → k' s) : operK X ops o s k' := by
  obtain ⟨v, hp, h1, h2⟩ := (gV_cls (ops := ops) hq ha o s.t).2.2.2 hc _ _ H
  obtain ⟨h3, h4⟩ := putK_iff.1 h1
  exact h2 _ (putK_iff.2 ⟨h3, hk _ h4⟩)

/-! ### The order -/
def edgeMask (acc : List Nat) : List Edge → Nat
  | [] => 0
  | e :: r => (match Region.binds .any e with | true => (2 ^ e.on) ||| acc.getD e.on 0 | false => 0) ||| edgeMask acc r
def masks : List Oper → List Nat → List Nat
  | [], acc => acc
  | o :: r, acc => masks r (acc ++ [edgeMask acc o.after.toList])

/-- Each listed operation's edges are listed. -/
def Closed (ops : Array Oper) (listed : Array Bool) : Prop := ∀ (i : Nat) o, ops[i]? = some o → listed.getD i false = true → ∀ e ∈ o.after, Region.binds .any e = true → listed.getD e.on false = true

def GoodM (opsA : Array Oper) (acc : List Nat) : Prop := ∀ (i : Nat) m, acc[i]? = some m → ∀ listed, Closed opsA listed → listed.getD i false = true → ∀ j, m.testBit j = true → listed.getD j false = true

theorem edgeMask_ok {opsA : Array Oper} {acc : List Nat} (hacc : GoodM opsA acc) {listed : Array Bool} (hl : Closed opsA listed) : ∀ (es : List Edge), (∀ e ∈ es, Region.binds .any e = true → listed.getD e.on false = true) → ∀ j, (edgeMask acc es).testBit j = true → listed.getD j false = true
  | [], _, j, h => by simp [edgeMask] at h
  | e :: r, he, j, h => by
    unfold edgeMask at h
    rw [Nat.testBit_or, Bool.or_eq_true] at h
    rcases h with h | h
    · cases hb : Region.binds .any e with
      | false => rw [hb] at h; simp at h
      | true =>
        rw [hb] at h
        simp only [Nat.testBit_or, Bool.or_eq_true] at h
        have hon := he e (by simp) hb
        rcases h with h | h
        · rw [Nat.testBit_two_pow] at h
          have : e.on = j := by simpa using h
          exact this ▸ hon
        · cases hm : acc[e.on]? with
          | none => rw [List.getD_eq_getElem?_getD, hm] at h; simp at h
          | some m =>
            rw [List.getD_eq_getElem?_getD, hm] at h
            exact hacc e.on m hm listed hl hon j h
    · exact edgeMask_ok hacc hl r (fun e h1 => he e (by simp [h1])) j h

theorem masks_ok {opsA : Array Oper} : ∀ (l : List Oper) (acc : List Nat), GoodM opsA acc → (∀ (i : Nat) o, l[i]? = some o → opsA[acc.length + i]? = some o) →
    GoodM opsA (masks l acc) ∧ (masks l acc).length = acc.length + l.length
  | [], acc, h, _ => ⟨h, by simp [masks]⟩
  | o :: r, acc, h, ho => by
    have h0 : opsA[acc.length]? = some o := by simpa using ho 0 o rfl
    have := masks_ok (opsA := opsA) r (acc ++ [edgeMask acc o.after.toList]) (fun i m hi listed hl hli j hj => ?_) (fun i o' hi => ?_)
    · refine ⟨this.1, ?_⟩
      show (masks r _).length = _
      rw [this.2]
      simp
      omega
    · rcases Nat.lt_or_ge i acc.length with hlt | hge
      · rw [List.getElem?_append_left hlt] at hi
        exact h i m hi listed hl hli j hj
      · have hie : i = acc.length := by
          have := (List.getElem?_eq_some_iff.1 hi).1
          simp at this
          omega
        subst hie
        simp at hi
        subst hi
        exact edgeMask_ok h hl _ (fun e he hb => hl _ o h0 hli e (by simpa using he) hb) j hj
    · have := ho (i + 1) o' (by simpa using hi)
      rw [← this]
      congr 1
      simp
      omega

/-- The pairs of operation i with those ahead of it. -/
def pairs (q : Nat → Nat) (aq : Nat) (ops : Array Oper) (oi : Oper) (m : Nat) : Nat → List Oper → Bool
  | _, [] => true
  | j, oj :: r => (match m.testBit j with | true => true | false => (match comm (cls q aq oj.op) (cls q aq oi.op) with | true => oj.apart ops oi | false => false)) && pairs q aq ops oi m (j + 1) r

def ordGo (q : Nat → Nat) (aq : Nat) (ops : Array Oper) (done : List Oper) : List Oper → List Nat → Bool
  | [], _ => true
  | _ :: _, [] => false
  | o :: r, m :: ms => Nat.ble (cls q aq o.op) 3 && o.after.toList.all (fun e => !(Region.binds .any e) || Nat.blt e.on done.length) && pairs q aq ops o m 0 done && ordGo q aq ops (done ++ [o]) r ms

/-- May the region's operations come in each order that is allowed? -/
def ordB (q : Nat → Nat) (aq : Nat) (ops : Array Oper) : Bool := ordGo q aq ops [] ops.toList (masks ops.toList [])

theorem pairs_ok {opsA : Array Oper} {oi : Oper} {m : Nat} : ∀ (l : List Oper) (j : Nat), pairs q aq opsA oi m j l = true → ∀ (n : Nat) oj, l[n]? = some oj → m.testBit (j + n) = true ∨ (comm (cls q aq oj.op) (cls q aq oi.op) = true ∧ oj.apart opsA oi = true)
  | [], _, _, n, oj, h => by simp at h
  | o :: r, j, hp, n, oj, h => by
    unfold pairs at hp
    rw [Bool.and_eq_true] at hp
    cases n with
    | zero =>
      simp at h
      subst h
      have := hp.1
      split at this
      · rename_i ht; exact .inl ht
      · split at this
        · rename_i hc; exact .inr ⟨hc, this⟩
        · cases this
    | succ n =>
      have := pairs_ok r (j + 1) hp.2 n oj (by simpa using h)
      rwa [show j + 1 + n = j + (n + 1) by omega] at this

theorem ordGo_ok {opsA : Array Oper} : ∀ (l : List Oper) (done : List Oper) (ms : List Nat), ordGo q aq opsA done l ms = true → ∀ (n : Nat) oi, l[n]? = some oi →
    cls q aq oi.op ≤ 3 ∧ (∀ e ∈ oi.after, Region.binds .any e = true → e.on < done.length + n) ∧ ∃ m, ms[n]? = some m ∧ ∀ (j : Nat) oj, j < done.length + n → (done ++ l)[j]? = some oj → m.testBit j = true ∨ (comm (cls q aq oj.op) (cls q aq oi.op) = true ∧ oj.apart opsA oi = true)
  | [], _, _, _, n, oi, h => by simp at h
  | o :: r, done, [], h, n, oi, hn => by simp [ordGo] at h
  | o :: r, done, m :: ms, h, n, oi, hn => by
    simp only [ordGo, Bool.and_eq_true] at h
    obtain ⟨⟨⟨h1, h2⟩, h3⟩, h4⟩ := h
    cases n with
    | zero =>
      simp at hn
      subst hn
      refine ⟨by simpa using h1, fun e he hb => ?_, m, rfl, fun j oj hj hoj => ?_⟩
      · have := List.all_eq_true.1 h2 e (by simpa using he)
        rw [hb] at this
        simp only [Bool.not_true, Bool.false_or] at this
        have : e.on < done.length := by simpa using this
        omega
      · rw [List.getElem?_append_left (by omega)] at hoj
        have := pairs_ok done 0 h3 j oj hoj
        rwa [Nat.zero_add] at this
    | succ n =>
      obtain ⟨a1, a2, m', a3, a4⟩ := ordGo_ok r (done ++ [o]) ms h4 n oi (by simpa using hn)
      refine ⟨a1, fun e he hb => ?_, m', by simpa using a3, fun j oj hj hoj => ?_⟩
      · have := a2 e he hb
        simp at this
        omega
      · refine a4 j oj (by simp; omega) ?_
        rw [List.append_assoc]
        exact hoj

theorem ordB_ok {opsA : Array Oper} (h : ordB q aq opsA = true) (i : Nat) (oi : Oper) (hi : opsA[i]? = some oi) :
    cls q aq oi.op ≤ 3 ∧ (∀ e ∈ oi.after, Region.binds .any e = true → e.on < i) ∧
    ∀ listed, Closed opsA listed → (∀ e ∈ oi.after, Region.binds .any e = true → listed.getD e.on false = true) → ∀ (j : Nat) oj, j < i → opsA[j]? = some oj → listed.getD j false = false →
      comm (cls q aq oj.op) (cls q aq oi.op) = true ∧ oj.apart opsA oi = true := by
  have hnil : GoodM opsA [] := fun i m hi => by simp at hi
  obtain ⟨a1, a2, m, a3, a4⟩ := ordGo_ok opsA.toList [] (masks opsA.toList []) h i oi (by simpa using hi)
  refine ⟨a1, fun e he hb => by simpa using a2 e he hb, fun listed hl hr j oj hj hoj hun => ?_⟩
  rcases a4 j oj (by simpa using hj) (by simpa using hoj) with h5 | h5
  · exfalso
    -- the mask of i: what lies ahead of it
    have key : ∀ (l : List Oper) (acc : List Nat), GoodM opsA acc → (∀ (n : Nat) o, l[n]? = some o → opsA[acc.length + n]? = some o) → ∀ (n : Nat) o mm, l[n]? = some o → (masks l acc)[acc.length + n]? = some mm →
        ∃ acc', GoodM opsA acc' ∧ mm = edgeMask acc' o.after.toList := by
      intro l
      induction l with
      | nil => intro acc _ _ n o mm h1; simp at h1
      | cons o r ih =>
        intro acc hacc hlo n o' mm h1 h2
        have hg : GoodM opsA (acc ++ [edgeMask acc o.after.toList]) := by
          have := (masks_ok (opsA := opsA) [o] acc hacc (fun n o'' hn => by
            cases n with
            | zero => simp at hn; subst hn; exact hlo 0 o rfl
            | succ n => simp at hn)).1
          exact this
        have hlo' : ∀ (n : Nat) o'', r[n]? = some o'' → opsA[(acc ++ [edgeMask acc o.after.toList]).length + n]? = some o'' := fun n o'' hn => by
          have := hlo (n + 1) o'' (by simpa using hn)
          rw [← this]
          congr 1
          simp
          omega
        cases n with
        | zero =>
          simp at h1
          subst h1
          refine ⟨acc, hacc, ?_⟩
          have keep : ∀ (r : List Oper) (acc : List Nat) (i : Nat), i < acc.length → (masks r acc)[i]? = acc[i]? := by
            intro r
            induction r with
            | nil => intro acc i _; rfl
            | cons o r ih =>
              intro acc i hi
              show (masks r _)[i]? = _
              rw [ih _ i (by simp; omega), List.getElem?_append_left hi]
          have h2 : (masks r (acc ++ [edgeMask acc o.after.toList]))[acc.length]? = some mm := by simpa [masks] using h2
          rw [keep _ _ _ (by simp)] at h2
          simpa using h2.symm
        | succ n =>
          refine ih _ hg hlo' n o' mm (by simpa using h1) ?_
          have : (acc ++ [edgeMask acc o.after.toList]).length + n = acc.length + (n + 1) := by simp; omega
          rw [this]
          exact h2
    obtain ⟨acc', h6, h7⟩ := key opsA.toList [] hnil (fun n o hn => by simpa using hn) i oi m (by simpa using hi) (by simpa using a3)
    have := edgeMask_ok h6 hl oi.after.toList (fun e he hb => hr e (by simpa using he) hb) j (h7 ▸ h5)
    rw [this] at hun
    cases hun
  · exact h5

/-- Operations by their places. -/
def opersI (X : Ctx) (opsA : Array Oper) (l : List Nat) (s : St) (k : St → Prop) : Prop := opers X opsA.toList (l.filterMap fun i => opsA[i]?) s k

theorem opersI_cons {opsA : Array Oper} {i : Nat} {o : Oper} (hi : opsA[i]? = some o) {l : List Nat} {s : St} {k : St → Prop} : opersI X opsA (i :: l) s k ↔ operK X opsA.toList o s fun s' => opersI X opsA l s' k := by
  unfold opersI
  rw [List.filterMap_cons_some hi]
  exact opers_cons

def rem (n : Nat) (listed : Array Bool) : List Nat := (List.range n).filter fun i => !listed.getD i true

theorem front (hq : ∀ g, CSpec (q g) (X.C g)) (ha : ∀ g, CSpec aq (X.C g)) {opsA : Array Oper} {i : Nat} {oi : Oper} (hi : opsA[i]? = some oi) {post : List Nat} {k : St → Prop} : ∀ (pre : List Nat) (s : St),
    (∀ j ∈ pre, ∃ oj, opsA[j]? = some oj ∧ cls q aq oj.op ≤ 3 ∧ comm (cls q aq oj.op) (cls q aq oi.op) = true ∧ oj.apart opsA oi = true) → opersI X opsA (pre ++ i :: post) s k → opersI X opsA (i :: (pre ++ post)) s k
  | [], s, _, h => h
  | j :: pre, s, hj, h => by
    obtain ⟨oj, h1, h2, h3, h4⟩ := hj j (by simp)
    rw [List.cons_append, opersI_cons h1] at h
    have h5 := operK_mono hq ha h2 h fun s' hs => front hq ha hi pre s' (fun j hj' => hj j (by simp [hj'])) hs
    simp only [opersI_cons hi] at h5
    have h6 := swap hq ha h4 h3 h5
    rw [opersI_cons hi]
    simp only [List.cons_append, opersI_cons h1]
    exact h6

theorem go_ok (hq : ∀ g, CSpec (q g) (X.C g)) (ha : ∀ g, CSpec aq (X.C g)) {opsA : Array Oper} (ho : ordB q aq opsA = true) : ∀ (fuel tk : Nat) (listed : Array Bool) (s : St) (k : St → Prop),
    listed.size = opsA.size → Closed opsA listed → (rem opsA.size listed).length ≤ fuel → opersI X opsA (rem opsA.size listed) s k → opersI X opsA (Region.linearise.go .any opsA fuel tk listed []) s k := by
  intro fuel
  induction fuel with
  | zero =>
    intro tk listed s k hsz hcl hf h
    have : rem opsA.size listed = [] := List.eq_nil_of_length_eq_zero (by omega)
    rw [this] at h
    simpa [Region.linearise.go] using h
  | succ fuel ih =>
    intro tk listed s k hsz hcl hf h
    have hun : ∀ i, i < opsA.size → (listed.getD i true = false ↔ listed.getD i false = false) := by
      intro i hi
      have hi' : i < listed.size := by omega
      simp [hi']
    simp only [Region.linearise.go]
    change opersI X opsA (match (Region.ready .any opsA listed)[tk % (Region.ready .any opsA listed).length]? with
      | some i => Region.linearise.go .any opsA fuel (tk / (Region.ready .any opsA listed).length) (listed.setIfInBounds i true) [i]
      | none => [].reverse) s k
    cases hi : (Region.ready .any opsA listed)[tk % (Region.ready .any opsA listed).length]? with
    | none =>
      have hnil : Region.ready .any opsA listed = [] := by
        cases hr : Region.ready .any opsA listed with
        | nil => rfl
        | cons x xs =>
          rw [hr] at hi
          have hlt : tk % (x :: xs).length < (x :: xs).length := Nat.mod_lt _ (by simp)
          simp at hi
          simp at hlt
          omega
      cases hrem : rem opsA.size listed with
      | nil => rw [hrem] at h; exact h
      | cons i0 r0 =>
        exfalso
        -- the least that is not listed is ready
        have hex : ∀ n i, i ≤ n → i < opsA.size → listed.getD i true = false → False := by
          intro n
          induction n with
          | zero =>
            intro i hin hlt hun0
            have hmem : i ∈ Region.ready .any opsA listed := by
              refine mem_ready.2 ⟨hun0, opsA[i], Array.getElem?_eq_getElem hlt, fun e he hb => ?_⟩
              have := (ordB_ok ho i _ (Array.getElem?_eq_getElem hlt)).2.1 e he hb
              omega
            rw [hnil] at hmem
            cases hmem
          | succ n ihn =>
            intro i hin hlt hun0
            have hmem : i ∈ Region.ready .any opsA listed := by
              refine mem_ready.2 ⟨hun0, opsA[i], Array.getElem?_eq_getElem hlt, fun e he hb => ?_⟩
              have h1 := (ordB_ok ho i _ (Array.getElem?_eq_getElem hlt)).2.1 e he hb
              cases hl : listed.getD e.on false with
              | true => rfl
              | false => exact (ihn e.on (by omega) (by omega) ((hun e.on (by omega)).2 hl)).elim
            rw [hnil] at hmem
            cases hmem
        have : i0 ∈ rem opsA.size listed := by rw [hrem]; simp
        simp only [rem, List.mem_filter, List.mem_range, Bool.not_eq_true'] at this
        exact hex i0 i0 (Nat.le_refl _) this.1 this.2
    | some i =>
      simp only []
      rw [linearise_go_acc, List.reverse_singleton, List.singleton_append]
      obtain ⟨hun0, oi, hoi, hall⟩ := mem_ready.1 (List.mem_of_getElem? hi)
      have hlt : i < opsA.size := (Array.getElem?_eq_some_iff.1 hoi).1
      have hmem : i ∈ rem opsA.size listed := by simp [rem, hlt]; simpa using hun0
      obtain ⟨pre, post, hpp⟩ := List.append_of_mem hmem
      have hnd : (rem opsA.size listed).Pairwise (· < ·) := List.Pairwise.filter _ (List.pairwise_lt_range)
      rw [hpp] at hnd
      have hpre : ∀ j ∈ pre, j < i := fun j hj => (List.pairwise_append.1 hnd).2.2 j hj i (by simp)
      have hpost : ∀ j ∈ post, i < j := fun j hj => (List.pairwise_cons.1 (List.pairwise_append.1 hnd).2.1).1 j hj
      obtain ⟨b1, b2, b3⟩ := ordB_ok ho i oi hoi
      have hfront : opersI X opsA (i :: (pre ++ post)) s k := by
        refine front hq ha hoi pre s (fun j hj => ?_) (hpp ▸ h)
        have hjr : j ∈ rem opsA.size listed := by rw [hpp]; simp [hj]
        simp only [rem, List.mem_filter, List.mem_range, Bool.not_eq_true'] at hjr
        have hoj := Array.getElem?_eq_getElem hjr.1
        have := b3 listed hcl hall j _ (hpre j hj) hoj ((hun j hjr.1).1 hjr.2)
        exact ⟨_, hoj, (ordB_ok ho j _ hoj).1, this.1, this.2⟩
      have hrem' : rem opsA.size (listed.setIfInBounds i true) = pre ++ post := by
        have e1 : rem opsA.size (listed.setIfInBounds i true) = (rem opsA.size listed).filter (fun j => j != i) := by
          unfold rem
          rw [List.filter_filter]
          apply List.filter_congr
          intro j hj
          by_cases hji : i = j
          · subst hji
            have : i < listed.size := by omega
            simp [this]
          · rw [getD_set_ne true hji]
            have : j ≠ i := fun e => hji e.symm
            simp [this]
        rw [e1, hpp, List.filter_append, List.filter_cons]
        have f1 : pre.filter (fun j => j != i) = pre := List.filter_eq_self.2 fun j hj => by have := hpre j hj; simp; omega
        have f2 : post.filter (fun j => j != i) = post := List.filter_eq_self.2 fun j hj => by have := hpost j hj; simp; omega
        simp [f1, f2]
      rw [opersI_cons hoi] at hfront ⊢
      refine operK_mono hq ha b1 hfront fun s' hs => ih _ _ s' k (by simpa using hsz) ?_ ?_ (by rw [hrem']; exact hs)
      · intro j oj hoj hlj e he hb
        by_cases hji : i = j
        · subst hji
          rw [hoi] at hoj
          injection hoj with hoj
          subst hoj
          exact getD_set_true (hall e he hb)
        · rw [getD_set_ne false hji] at hlj
          exact getD_set_true (hcl j oj hoj hlj e he hb)
      · rw [hrem']
        rw [hpp] at hf
        simp at hf ⊢
        omega
end

/-- Regions that draw their order: those that pass 'ordB' come to the same in each. -/
theorem ord_ok {P : Program} {X : Ctx} {q : Nat → Nat} {aq : Nat} (hm : P.follows .mixedOrders = true) (hq : ∀ g, CSpec (q g) (X.C g)) (ha : ∀ g, CSpec aq (X.C g)) : OrdOK P X (ordB q aq) := by
  intro opsA ho l ⟨tk, hl⟩ s k h
  subst hl
  simp only [Region.schedule, hm, Bool.true_or, if_true, Region.linearise]
  have hrep : ∀ i, (Array.replicate opsA.size false).getD i false = false := by
    intro i
    rcases Nat.lt_or_ge i opsA.size with h | h
    · simp [h]
    · simp [Array.getElem?_eq_none (show (Array.replicate opsA.size false).size ≤ i by simpa using h)]
  have hrem : rem opsA.size (Array.replicate opsA.size false) = List.range opsA.size := by
    unfold rem
    refine List.filter_eq_self.2 fun i hi => ?_
    have : i < opsA.size := List.mem_range.1 hi
    simp [this]
  refine go_ok hq ha ho opsA.size tk _ s k (by simp) (fun i o _ hli => by rw [hrep] at hli; cases hli) (by rw [hrem]; simp) ?_
  rw [hrem]
  unfold opersI
  rw [range_filterMap]
  exact h
end E
end Go.Proofs.YtjhognibibmeiaaGreatDoor
