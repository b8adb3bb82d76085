/-
  READING THE ARGUMENTS: what a row tells of its arguments, as the evaluator has it.
-/
import Derived.Test.YtjhognibibmeiaaGreatDoorGb
import Derived.Test.YtjhognibibmeiaaGreatDoorCards
import Derived.Test.YtjhognibibmeiaaGreatDoorTie
import Derived.ProofKit
import Derived.OpenShut
import Derived.SizedLaws
import Derived.Carry
import Derived.ChangeSame
import Derived.Deep.Slices
import Derived.JoinedOf
import Derived.Deep.DeepHandedRow
import Derived.Lib.LaidTab
set_option linter.unusedVariables false
set_option maxRecDepth 100000
set_option maxHeartbeats 4000000
namespace Go.Proofs.YtjhognibibmeiaaGreatDoor
namespace E
open Go Go.RowKit Go.ChangeShapes Go.Deep

section
variable {H : Type} {enc : TypeId × Value → H} {P : Program} {w : World} {base : Nat} {sp : Nat → Bool} {held : Bool}
/-- A type of whole numbers: its cells. -/
def IT (enc : TypeId × Value → H) (P : Program) (w : World) (base : Nat) (sp : Nat → Bool) (held : Bool) (t : TypeId) : Prop :=
  ∀ fuel cs x, DataW.trod enc P w base sp held fuel t cs = some x → cs.length = P.cellsOf t ∧ (∀ (j : Nat) c, cs[j]? = some c → ∃ n, c = Value.int .i64 n) ∧ x.2 = []
theorem IT.int {t : TypeId} (ht : P.underlying t = some (.int .i64)) (hc : P.cellsOf t = 1) : IT enc P w base sp held t := by
  intro fuel cs x h
  obtain ⟨n, rfl, rfl, _⟩ := DataW.trod_int ht h
  refine ⟨hc.symm, fun j c hj => ?_, rfl⟩
  cases j with
  | zero => injection hj with hj; exact ⟨n, hj.symm⟩
  | succ j => simp at hj
theorem flat_nil {xs : List (DataW H × List MemPlace)} (h : ∀ (i : Nat) y, xs[i]? = some y → y.2 = []) : xs.flatMap (·.2) = [] := by
  rw [List.flatMap_eq_nil_iff]
  intro y hy
  obtain ⟨i, hi, rfl⟩ := List.mem_iff_getElem.1 hy
  exact h i _ (List.getElem?_eq_getElem hi)
theorem seg_get {cs : List Value} {off k j : Nat} (h1 : off ≤ j) (h2 : j < off + k) : ((cs.drop off).take k)[j - off]? = cs[j]? := by
  rw [List.getElem?_take, if_pos (by omega), List.getElem?_drop]
  congr 1
  omega
theorem IT.array {t e : TypeId} {n k : Nat} (ht : P.underlying t = some (.array n e)) (hk : P.cellsOf e = k) (hc : P.cellsOf t = n * k) (hk0 : 0 < k) (he : IT enc P w base sp held e) : IT enc P w base sp held t := by
  intro fuel cs x h
  obtain ⟨xs, m, _, rfl, hl, hn, hx⟩ := DataW.trod_array ht h
  refine ⟨hl, fun j c hj => ?_, flat_nil fun i y hy => ?_⟩
  · have hjl : j < n * k := by rw [← hc, ← hl]; exact (List.getElem?_eq_some_iff.1 hj).1
    have hi : j / k < n := Nat.div_lt_of_lt_mul (by rw [Nat.mul_comm]; exact hjl)
    have h1 := hx (j / k) hi
    rw [List.getElem?_eq_getElem (by omega), hk] at h1
    have h2 := (he _ _ _ h1).2.1 (j - j / k * k) c
    have h3 : j / k * k ≤ j := Nat.div_mul_le_self j k
    have h4 : j < j / k * k + k := by have := Nat.mod_lt j hk0; have := Nat.div_add_mod' j k; omega
    rw [seg_get h3 h4] at h2
    exact h2 hj
  · have hi : i < n := by rw [← hn]; exact (List.getElem?_eq_some_iff.1 hy).1
    have h1 := hx i hi
    rw [hy] at h1
    exact (he _ _ _ h1).2.2
theorem IT.struct {t : TypeId} {fs : Array Field} {k : Nat} (ht : P.underlying t = some (.struct fs)) (hc : P.cellsOf t = k)
    (hcov : ∀ j, j < k → ∃ (i : Nat) (f : Field), fs[i]? = some f ∧ f.offset ≤ j ∧ j < f.offset + P.cellsOf f.type) (he : ∀ (i : Nat) (f : Field), fs[i]? = some f → IT enc P w base sp held f.type) : IT enc P w base sp held t := by
  intro fuel cs x h
  obtain ⟨xs, m, _, rfl, hl, hn, hx⟩ := DataW.trod_struct ht h
  refine ⟨hl, fun j c hj => ?_, flat_nil fun i y hy => ?_⟩
  · have hjl : j < k := by rw [← hc, ← hl]; exact (List.getElem?_eq_some_iff.1 hj).1
    obtain ⟨i, f, hf, h3, h4⟩ := hcov j hjl
    have h1 := hx i f hf
    have hi : i < xs.length := by rw [hn]; exact (Array.getElem?_eq_some_iff.1 hf).1
    rw [List.getElem?_eq_getElem hi] at h1
    have h2 := (he i f hf _ _ _ h1).2.1 (j - f.offset) c
    rw [seg_get h3 h4] at h2
    exact h2 hj
  · have hi : i < fs.size := by rw [← hn]; exact (List.getElem?_eq_some_iff.1 hy).1
    have h1 := hx i _ (Array.getElem?_eq_getElem hi)
    rw [hy] at h1
    exact (he i _ (Array.getElem?_eq_getElem hi) _ _ _ h1).2.2
theorem all_ints {cs : List Value} (h : ∀ (j : Nat) c, cs[j]? = some c → ∃ n, c = Value.int .i64 n) : ∃ ns : List Int, cs = ns.map (Value.int .i64) := by
  induction cs with
  | nil => exact ⟨[], rfl⟩
  | cons c r ih =>
    obtain ⟨n, rfl⟩ := h 0 c rfl
    obtain ⟨ns, rfl⟩ := ih fun j c hj => h (j + 1) c (by simpa using hj)
    exact ⟨n :: ns, rfl⟩

/-- A slice of such, as it is read. -/
theorem rd_slice {t e : TypeId} {k : Nat} (hu : P.underlying t = some (.slice e)) (hk : P.cellsOf e = k) (hk0 : 0 < k) (he : IT enc P w base (fun _ => true) held e) {a0 : Option Addr} {len cap : Nat} {d : DataW H} {ps : List MemPlace}
    (h : DataW.Trod enc P w base (fun _ => true) held t (.slice a0 len cap) d ps) :
    ∃ rows : List (List Int), RRel (fun b => b < w.heap.size) w (.rd (rows.map fun r => r.map I)) (.slice a0 len cap) ∧ (∀ r ∈ rows, r.length = k) ∧ (rows = [] ∨ ∃ el spr, d = .slice el spr ∧ el.length = rows.length) := by
  obtain ⟨fuel, hf⟩ := h
  rcases open_slice hu hf with ⟨hcs, hx⟩ | ⟨a, len', cap', m, n, D, Pl, hcs, hb, hl, hm, hmm, hx, hel⟩
  · simp [Value.cells] at hcs
    obtain ⟨rfl, rfl, rfl⟩ := hcs
    exact ⟨[], .nil _ _, by simp, .inl rfl⟩
  · simp [Value.cells] at hcs
    obtain ⟨rfl, rfl, rfl⟩ := hcs
    simp only [if_true] at hmm
    subst hmm
    rw [hk] at hel
    have hrow : ∀ i, i < len → ∃ ns : List Int, ns.length = k ∧ ∀ j, j < k → w.cell? (a.add (i * k) |>.add j) = (ns[j]?).map (Value.int .i64) := by
      intro i hi
      obtain ⟨cs', h1, h2⟩ := hel i (by omega)
      obtain ⟨h3, h4, _⟩ := he _ _ _ h2
      obtain ⟨ns, rfl⟩ := all_ints h4
      obtain ⟨_, _, h5⟩ := World.cells?_some h1
      refine ⟨ns, by rw [← hk, ← h3]; simp, fun j hj => ?_⟩
      rw [h5 j hj, List.getElem?_map]
    rcases Nat.eq_zero_or_pos len with h0 | h0
    · subst h0
      exact ⟨[], .nil _ _, by simp, .inl rfl⟩
    · obtain ⟨b, off, spot⟩ := a
      obtain ⟨ns0, hn0, hc0⟩ := hrow 0 h0
      have hc00 := hc0 0 hk0
      rw [List.getElem?_eq_getElem (by omega)] at hc00
      have hspot : spot = none := by
        cases spot with
        | none => rfl
        | some s =>
          exfalso
          unfold World.cell? at hc00
          simp [Addr.add] at hc00
          split at hc00 <;> cases hc00
      subst hspot
      have hblk : b < w.heap.size := by
        rcases Nat.lt_or_ge b w.heap.size with hb | hb
        · exact hb
        · exfalso
          unfold World.cell? at hc00
          simp [Addr.add, hb] at hc00
      obtain ⟨F, hF⟩ : ∃ F : Nat → List Int, ∀ i, i < len → (F i).length = k ∧ ∀ j, j < k → w.cell? ((⟨b, off, none⟩ : Addr).add (i * k) |>.add j) = ((F i)[j]?).map (Value.int .i64) :=
        ⟨fun i => if h : i < len then Classical.choose (hrow i h) else [], fun i h => by
          simp only [dif_pos h]
          exact Classical.choose_spec (hrow i h)⟩
      refine ⟨(List.range len).map F, ?_, ?_, .inr ⟨_, _, (congrArg Prod.fst hx), by simp⟩⟩
      · have hlen : (((List.range len).map F).map fun r => r.map I).length = len := by simp
        have hget : ∀ (i : Nat) el, (((List.range len).map F).map fun r => r.map I)[i]? = some el → i < len ∧ el = (F i).map I := by
          intro i el hi
          have hlt := (List.getElem?_eq_some_iff.1 hi).1
          rw [hlen] at hlt
          rw [List.getElem?_map, List.getElem?_map, List.getElem?_range hlt] at hi
          injection hi with hi
          exact ⟨hlt, hi.symm⟩
        have := RRel.rd (R := fun b => b < w.heap.size) (w := w) (((List.range len).map F).map fun r => r.map I) b off m k (fun i j => Value.int .i64 ((F i).getD j 0)) hblk (by rw [hlen]; exact hl)
          (fun i el hi => by obtain ⟨h1, rfl⟩ := hget i el hi; rw [List.length_map]; exact (hF i h1).1) (fun i j el hi hj => by
            obtain ⟨h1, rfl⟩ := hget i el hi
            have h2 := (hF i h1).2 j hj
            have h3 := (hF i h1).1
            refine ⟨?_, rfl⟩
            have e1 : ((⟨b, off, none⟩ : Addr).add (i * k)).add j = ⟨b, off + (i * k + j), none⟩ := by rw [Addr.add_lit, Addr.add_lit, Nat.add_assoc]
            rw [e1] at h2
            rw [h2, List.getElem?_eq_getElem (by omega), List.getD_eq_getElem?_getD, List.getElem?_eq_getElem (by omega)]
            rfl) (fun i j el c hi hc => by
            obtain ⟨h1, rfl⟩ := hget i el hi
            rw [List.getElem?_map] at hc
            cases h4 : (F i)[j]? with
            | none => rw [h4] at hc; cases hc
            | some n =>
              rw [h4] at hc
              injection hc with hc
              subst hc
              rw [List.getD_eq_getElem?_getD, h4]
              exact .v _)
        rwa [hlen] at this
      · intro r hr
        obtain ⟨i, hi, rfl⟩ := List.mem_map.1 hr
        exact (hF i (List.mem_range.1 hi)).1
end

theorem rows_ops : ∀ {rows : List (List Int)}, (∀ r ∈ rows, r.length = 12) → ∃ g : List O, eOs g = (rows.map fun r => r.map I) ∧ g.length = rows.length
  | [], _ => ⟨[], rfl, rfl⟩
  | r :: s, h => by
    obtain ⟨g, hg, hl⟩ := rows_ops (rows := s) fun x hx => h x (List.mem_cons_of_mem _ hx)
    have hr := h r (List.mem_cons_self ..)
    match r, hr with
    | [a1, a2, a3, a4, a5, a6, a7, a8, a9, a10, a11, a12], _ =>
      exact ⟨⟨⟨⟨a1, a2, a3⟩, ⟨a4, a5, a6⟩, ⟨a7, a8, a9⟩⟩, ⟨a10, a11, a12⟩⟩ :: g, by
        show _ :: eOs g = _
        rw [hg]
        rfl, by simp [hl]⟩
theorem rows_atoms : ∀ {rows : List (List Int)}, (∀ r ∈ rows, r.length = 6) → ∃ l : List Atm, eAs l = (rows.map fun r => r.map I) ∧ l.length = rows.length
  | [], _ => ⟨[], rfl, rfl⟩
  | r :: s, h => by
    obtain ⟨l, hg, hl⟩ := rows_atoms (rows := s) fun x hx => h x (List.mem_cons_of_mem _ hx)
    have hr := h r (List.mem_cons_self ..)
    match r, hr with
    | [a1, a2, a3, a4, a5, a6], _ =>
      exact ⟨⟨⟨a1, ⟨a2, a3, a4⟩⟩, a5, a6⟩ :: l, by
        show _ :: eAs l = _
        rw [hg]
        rfl, by simp [hl]⟩
section
variable {H : Type} {enc : TypeId × Value → H} {w : World} {base : Nat} {sp : Nat → Bool} {held : Bool}
theorem it3 : IT enc PR w base sp held 3 := IT.int Tryz.underlying3 (by kernel_rfl)
theorem it24 : IT enc PR w base sp held 24 := IT.array Tryz.underlying24 (k := 1) (by kernel_rfl) (by kernel_rfl) (by decide) it3
theorem it25 : IT enc PR w base sp held 25 := IT.array Tryz.underlying25 (k := 1) (by kernel_rfl) (by kernel_rfl) (by decide) it3
theorem it56 : IT enc PR w base sp held 56 := IT.array Tryz.underlying56 (k := 3) (by kernel_rfl) (by kernel_rfl) (by decide) it24
theorem c3 : PR.cellsOf 3 = 1 := by kernel_rfl
theorem c25 : PR.cellsOf 25 = 3 := by kernel_rfl
theorem c56 : PR.cellsOf 56 = 9 := by kernel_rfl
theorem c27 : PR.cellsOf 27 = 4 := by kernel_rfl
theorem c60 : PR.cellsOf 60 = 6 := by kernel_rfl
theorem c58 : PR.cellsOf 58 = 12 := by kernel_rfl
theorem it58 : IT enc PR w base sp held 58 := by
  refine IT.struct Tryz.underlying58 c58 (fun j hj => ?_) (fun i f hf => ?_)
  · rcases Nat.lt_or_ge j 9 with h | h
    · exact ⟨0, _, rfl, Nat.zero_le _, by show j < 0 + PR.cellsOf 56; rw [c56]; omega⟩
    · exact ⟨1, _, rfl, h, by show j < 9 + PR.cellsOf 25; rw [c25]; omega⟩
  · match i, hf with
    | 0, hf => cases hf; exact it56
    | 1, hf => cases hf; exact it25
theorem it27 : IT enc PR w base sp held 27 := by
  refine IT.struct Tryz.underlying27 c27 (fun j hj => ?_) (fun i f hf => ?_)
  · rcases Nat.lt_or_ge j 1 with h | h
    · exact ⟨0, _, rfl, Nat.zero_le _, by show j < 0 + PR.cellsOf 3; rw [c3]; omega⟩
    · exact ⟨1, _, rfl, h, by show j < 1 + PR.cellsOf 25; rw [c25]; omega⟩
  · match i, hf with
    | 0, hf => cases hf; exact it3
    | 1, hf => cases hf; exact it25
theorem it60 : IT enc PR w base sp held 60 := by
  refine IT.struct Tryz.underlying60 c60 (fun j hj => ?_) (fun i f hf => ?_)
  · rcases Nat.lt_or_ge j 4 with h | h
    · exact ⟨0, _, rfl, Nat.zero_le _, by show j < 0 + PR.cellsOf 27; rw [c27]; omega⟩
    · rcases Nat.lt_or_ge j 5 with h2 | h2
      · exact ⟨1, _, rfl, h, by show j < 4 + PR.cellsOf 3; rw [c3]; omega⟩
      · exact ⟨2, _, rfl, h2, by show j < 5 + PR.cellsOf 3; rw [c3]; omega⟩
  · match i, hf with
    | 0, hf => cases hf; exact it27
    | 1, hf => cases hf; exact it3
    | 2, hf => cases hf; exact it3
end

/-- A column handed in. -/
theorem vec_open {H : Type} {enc : TypeId × Value → H} {W : World} {base : Nat} {v : Value} {d : DataW H} {p : List MemPlace} (hv : Value.okWide PR W .any base 25 v) (h : DataW.Trod enc PR W 0 (fun _ => true) true 25 v d p) :
    ∃ x : V, RRel (fun b => b < W.heap.size) W (.agg (eV x)) v := by
  unfold Value.okWide at hv
  rw [Tryz.underlying25] at hv
  obtain ⟨cs, rfl, _, _⟩ := hv
  obtain ⟨fuel, hf⟩ := h
  obtain ⟨h1, h2, _⟩ := it25 _ _ _ hf
  rw [c25] at h1
  obtain ⟨ns, hns⟩ := all_ints h2
  have hl : ns.length = 3 := by rw [hns] at h1; simpa using h1
  match ns, hl with
  | [a, b, c], _ =>
    have hcs : cs = [Value.int .i64 a, Value.int .i64 b, Value.int .i64 c].toArray := by
      have h3 : cs.toList = [Value.int .i64 a, Value.int .i64 b, Value.int .i64 c] := hns
      rw [← h3]
    rw [hcs]
    refine ⟨⟨a, b, c⟩, .agg _ _ rfl fun i c x hc hx => ?_⟩
    match i, hc, hx with
    | 0, hc, hx => cases hc; cases hx; exact .v _
    | 1, hc, hx => cases hc; cases hx; exact .v _
    | 2, hc, hx => cases hc; cases hx; exact .v _
    | i + 3, hc, hx => cases hc


/-- A place handed in. -/
theorem pt_open {H : Type} {enc : TypeId × Value → H} {W : World} {base : Nat} {v : Value} {d : DataW H} {p : List MemPlace} (hv : Value.okWide PR W .any base 27 v) (h : DataW.Trod enc PR W 0 (fun _ => true) true 27 v d p) :
    ∃ x : Pt, RRel (fun b => b < W.heap.size) W (.agg (ePt x)) v := by
  unfold Value.okWide at hv
  rw [Tryz.underlying27] at hv
  obtain ⟨cs, rfl, _, _⟩ := hv
  obtain ⟨fuel, hf⟩ := h
  obtain ⟨h1, h2, _⟩ := it27 _ _ _ hf
  rw [c27] at h1
  obtain ⟨ns, hns⟩ := all_ints h2
  have hl : ns.length = 4 := by rw [hns] at h1; simpa using h1
  match ns, hl with
  | [a, b, c, e], _ =>
    have hcs : cs = [Value.int .i64 a, Value.int .i64 b, Value.int .i64 c, Value.int .i64 e].toArray := by
      have h3 : cs.toList = [Value.int .i64 a, Value.int .i64 b, Value.int .i64 c, Value.int .i64 e] := hns
      rw [← h3]
    rw [hcs]
    refine ⟨⟨a, ⟨b, c, e⟩⟩, .agg _ _ rfl fun i c x hc hx => ?_⟩
    match i, hc, hx with
    | 0, hc, hx => cases hc; cases hx; exact .v _
    | 1, hc, hx => cases hc; cases hx; exact .v _
    | 2, hc, hx => cases hc; cases hx; exact .v _
    | 3, hc, hx => cases hc; cases hx; exact .v _
    | i + 4, hc, hx => cases hc
def eVs (l : List V) : List (List LV) := l.map eV
theorem rows_vecs : ∀ {rows : List (List Int)}, (∀ r ∈ rows, r.length = 3) → ∃ l : List V, eVs l = (rows.map fun r => r.map I) ∧ l.length = rows.length
  | [], _ => ⟨[], rfl, rfl⟩
  | r :: s, h => by
    obtain ⟨l, hg, hl⟩ := rows_vecs (rows := s) fun x hx => h x (List.mem_cons_of_mem _ hx)
    have hr := h r (List.mem_cons_self ..)
    match r, hr with
    | [a1, a2, a3], _ =>
      exact ⟨⟨a1, a2, a3⟩ :: l, by
        show _ :: eVs l = _
        rw [hg]
        rfl, by simp [hl]⟩

/-! ### The variable that the row lays -/
theorem own0 : ownKnob PR.godebug = none := by kernel_rfl
theorem laidOut0 : laidOutB PR = true := by kernel_rfl
def zs1 : List Int := gl1.map fun | .int _ n => n | _ => 0
theorem gQ : PR.globalNamed "facet/facetref17.quarter" = some 1 := by kernel_rfl
theorem gR_of {L : List (String × DataW Unit)} (hL : L = [("facet/facetref17.quarter", Lib.tabData .u64 zs1)]) {W : World} (h : laidMetH PR L W) : GlR GL (fun b => b < W.heap.size) W := by
  subst hL
  have hT : Lib.TabIs PR W "facet/facetref17.quarter" .u64 zs1 := Lib.tabIs_of_head (t := 150) (e := 113) (n := 49) (rest := []) gQ (by kernel_rfl) Tryz.underlying150 Tryz.underlying113 (by kernel_rfl) (by kernel_rfl) h
  intro g cs hg
  have hg1 : g = 1 ∧ cs = gl1 := by
    unfold GL at hg
    split at hg
    · injection hg with hg; exact ⟨rfl, hg.symm⟩
    · cases hg
  obtain ⟨rfl, rfl⟩ := hg1
  have hcell : ∀ (j : Nat) v, gl1[j]? = some v → At W 1 j v := by
    intro j v hv
    have hj : j < 49 := by
      have := (List.getElem?_eq_some_iff.1 hv).1
      have hl : gl1.length = 49 := by kernel_rfl
      omega
    have hc := hT.cell gQ j (by have : zs1.length = 49 := by kernel_rfl
                                omega)
    have hall : ∀ k, k < 49 → ∃ n, gl1[k]? = some (Value.int .u64 n) ∧ zs1[k]? = some n := by
      have : ((List.range 49).all fun k => match gl1[k]?, zs1[k]? with | some (.int .u64 n), some m => n == m | _, _ => false) = true := by kernel_rfl
      intro k hk
      have h2 := List.all_eq_true.1 this k (List.mem_range.2 hk)
      split at h2
      · rename_i n m h3 h4
        have : n = m := by simpa using h2
        subst this
        exact ⟨n, h3, h4⟩
      · cases h2
    obtain ⟨n, h3, h4⟩ := hall j hj
    rw [h3] at hv
    injection hv with hv
    subst hv
    refine ⟨?_, rfl⟩
    rw [hc, List.getD_eq_getElem?_getD, h4]
    rfl
  refine ⟨?_, hcell⟩
  have h0 := (hcell 0 _ rfl).1
  rcases Nat.lt_or_ge 1 W.heap.size with hb | hb
  · exact hb
  · exfalso
    unfold World.cell? at h0
    simp [hb] at h0
end E
end Go.Proofs.YtjhognibibmeiaaGreatDoor
