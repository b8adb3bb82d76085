/-
  THE EVALUATOR, sixteenth part: regions that draw their order: each order that is allowed comes to the same.
-/
import Derived.Test.YtjhognibibmeiaaGreatDoorEo
set_option linter.unusedVariables false
namespace Go.Proofs.YtjhognibibmeiaaGreatDoor
namespace E
open Go Go.RowKit

/-- 0: looks at no memory and changes none. 1: looks. 2: makes memory more. 3: changes memory. 4: not told. -/
def low : Nat → Nat
  | 1 => 1
  | 2 => 2
  | 3 => 3
  | _ => 4
def cls (q : Nat → Nat) (aq : Nat) : Op → Nat
  | .move _ | .assign _ | .pick .. | .build .. | .nilCheck _ | .binOp .. | .unOp .. | .convert .. | .makeFunc (.func _) .. | .fieldAddr .. | .field .. | .index .. | .extract .. => 0
  | .load .. | .indexAddr .. => 1
  | .call c =>
    (match c.callee with
     | .value (.func g) => low (q g)
     | .value _ => low aq
     | .builtin .len => 1
     | .builtin .complex | .builtin .real | .builtin .imag => 0
     | .builtin .append => 3
     | _ => 4)
  | .alloc _ | .box .. | .buildSlice .. => 2
  | .store .. => 3
  | _ => 4

abbrev Fn2 := List Blk → (LV → List Blk → Prop) → Prop
def IsP (F : Fn2) : Prop := ∃ F1 : (LV → Prop) → Prop, Fun1 F1 ∧ ∀ h K, F h K ↔ F1 fun v => K v h
def IsR (F : Fn2) : Prop := ∀ h K, F h K → ∃ v, K v h ∧ ∀ bs (K' : LV → List Blk → Prop), K' v (h ++ bs) → F (h ++ bs) K'
def IsA (F : Fn2) : Prop := ∀ h K, F h K → ∃ v bs, K v (h ++ bs) ∧ ∀ K' : LV → List Blk → Prop, K' v (h ++ bs) → F h K'
def IsF (F : Fn2) : Prop := ∀ h K, F h K → ∃ v h', K v h' ∧ ∀ K' : LV → List Blk → Prop, K' v h' → F h K'
def IsC (c : Nat) (F : Fn2) : Prop := (c = 0 → IsP F) ∧ (c ≤ 1 → IsR F) ∧ (c ≤ 2 → IsA F) ∧ (c ≤ 3 → IsF F)

/-- A contract's kind. -/
def CSpec (c : Nat) (S : Spec) : Prop := ∀ args, IsC (low c) (S args)

section
variable {F : Fn2}
theorem IsP.r (h : IsP F) : IsR F := by
  obtain ⟨F1, h1, h2⟩ := h
  intro hp K hk
  obtain ⟨v, h3, h4⟩ := h1 _ ((h2 hp K).1 hk)
  exact ⟨v, h3, fun bs K' hk' => (h2 _ _).2 (h4 _ hk')⟩
theorem IsR.a (h : IsR F) : IsA F := by
  intro hp K hk
  obtain ⟨v, h1, h2⟩ := h hp K hk
  refine ⟨v, [], by simpa using h1, fun K' hk' => ?_⟩
  have := h2 [] K' hk'
  simpa using this
theorem IsA.f (h : IsA F) : IsF F := by
  intro hp K hk
  obtain ⟨v, bs, h1, h2⟩ := h hp K hk
  exact ⟨v, _, h1, h2⟩
theorem IsP.c (h : IsP F) (c : Nat) : IsC c F := ⟨fun _ => h, fun _ => h.r, fun _ => h.r.a, fun _ => h.r.a.f⟩
theorem IsR.c (h : IsR F) {c : Nat} (hc : 1 ≤ c) : IsC c F := ⟨fun h0 => by omega, fun _ => h, fun _ => h.a, fun _ => h.a.f⟩
theorem IsA.c (h : IsA F) {c : Nat} (hc : 2 ≤ c) : IsC c F := ⟨fun h0 => by omega, fun _ => by omega, fun _ => h, fun _ => h.f⟩
theorem IsF.c (h : IsF F) {c : Nat} (hc : 3 ≤ c) : IsC c F := ⟨fun h0 => by omega, fun _ => by omega, fun _ => by omega, fun _ => h⟩
theorem isC_none (F : Fn2) : IsC 4 F := ⟨fun h => by omega, fun h => by omega, fun h => by omega, fun h => by omega⟩
end

theorem get_app {α : Type} {h bs : List α} {i : Nat} {b : α} (hb : h[i]? = some b) : (h ++ bs)[i]? = some b := by
  rw [List.getElem?_append_left (List.getElem?_eq_some_iff.1 hb).1]; exact hb

section
variable {X : Ctx} {t : List LV}

theorem IsR.bind {α : Type} {F : (α → Prop) → Prop} {G : α → Fn2} (hF : Fun1 F) (hG : ∀ a, IsR (G a)) : IsR (fun h K => F fun a => G a h K) := by
  intro h K hk
  obtain ⟨a, h1, h2⟩ := hF _ hk
  obtain ⟨v, h3, h4⟩ := hG a h K h1
  exact ⟨v, h3, fun bs K' hk' => h2 _ (h4 bs K' hk')⟩
theorem IsA.bind {α : Type} {F : (α → Prop) → Prop} {G : α → Fn2} (hF : Fun1 F) (hG : ∀ a, IsA (G a)) : IsA (fun h K => F fun a => G a h K) := by
  intro h K hk
  obtain ⟨a, h1, h2⟩ := hF _ hk
  obtain ⟨v, bs, h3, h4⟩ := hG a h K h1
  exact ⟨v, bs, h3, fun K' hk' => h2 _ (h4 K' hk')⟩
theorem IsF.bind {α : Type} {F : (α → Prop) → Prop} {G : α → Fn2} (hF : Fun1 F) (hG : ∀ a, IsF (G a)) : IsF (fun h K => F fun a => G a h K) := by
  intro h K hk
  obtain ⟨a, h1, h2⟩ := hF _ hk
  obtain ⟨v, h', h3, h4⟩ := hG a h K h1
  exact ⟨v, h', h3, fun K' hk' => h2 _ (h4 K' hk')⟩
theorem IsP.of {F1 : (LV → Prop) → Prop} (h : Fun1 F1) : IsP (fun h K => F1 fun v => K v h) := ⟨F1, h, fun h K => Iff.rfl⟩
theorem IsR.no : IsR (fun _ _ => False) := fun _ _ h => h.elim

theorem isR_load {ty : Nat} {p : LV} : IsR (fun h K => loadK X h ty p fun v => K v h) := by
  intro h K hk
  obtain ⟨d, h1, hk⟩ := tdK_iff.1 hk
  cases p with
  | ptr id i sub =>
    obtain ⟨b, hb, hk⟩ := getK_iff.1 hk
    cases b with
    | box cs =>
      cases i with
      | zero =>
        obtain ⟨v, h3, h4⟩ := Fun1.part _ hk
        exact ⟨v, h3, fun bs K' hk' => tdK_iff.2 ⟨d, h1, getK_iff.2 ⟨_, get_app hb, h4 _ hk'⟩⟩⟩
      | succ i => exact hk.elim
    | row sz ex es =>
      obtain ⟨v, h3, h4⟩ := (Fun1.bind (F := eltK es i) (G := fun e k => partK d e sub k) Fun1.elt fun e => Fun1.part) _ hk
      exact ⟨v, h3, fun bs K' hk' => tdK_iff.2 ⟨d, h1, getK_iff.2 ⟨_, get_app hb, h4 _ hk'⟩⟩⟩
    | map ag kn m => exact hk.elim
    | dead => exact hk.elim
  | eptr e sub =>
    obtain ⟨v, h3, h4⟩ := Fun1.part _ hk
    exact ⟨v, h3, fun bs K' hk' => tdK_iff.2 ⟨d, h1, h4 _ hk'⟩⟩
  | _ => exact hk.elim

theorem isR_idxAddr {ty : Nat} {p : LV} {n : Int} : IsR (fun h K => idxAddrK X h ty p n fun v => K v h) := by
  intro h K hk
  obtain ⟨d, h1, hk⟩ := tdK_iff.1 hk
  split at hk
  · rename_i len el id j sub hdesc _
    obtain ⟨v, h3, h4⟩ := (Fun1.bind (F := tdK X el) (G := fun de k => idxB n (len : Int) (k (LV.ptr id j (sub + n.toNat * de.sz)))) Fun1.td fun de => Fun1.idx (Fun1.pure _)) (fun v => K v h) hk
    exact ⟨v, h3, fun bs K' hk' => tdK_iff.2 ⟨d, h1, by simp only [hdesc]; exact h4 (fun v => K' v (h ++ bs)) hk'⟩⟩
  · rename_i len el e sub hdesc _
    obtain ⟨v, h3, h4⟩ := (Fun1.bind (F := tdK X el) (G := fun de k => idxB n (len : Int) (k (LV.eptr e (sub + n.toNat * de.sz)))) Fun1.td fun de => Fun1.idx (Fun1.pure _)) (fun v => K v h) hk
    exact ⟨v, h3, fun bs K' hk' => tdK_iff.2 ⟨d, h1, by simp only [hdesc]; exact h4 (fun v => K' v (h ++ bs)) hk'⟩⟩
  · rename_i el es hdesc _
    obtain ⟨v, h3, h4⟩ := (Fun1.bind (F := tdK X el) (G := fun de k => nnB n (eltK es n.toNat fun e => lenB e.length de.sz (k (LV.eptr e 0)))) Fun1.td fun de => Fun1.nn (Fun1.bind (F := eltK es n.toNat) (G := fun e k => lenB e.length de.sz (k (LV.eptr e 0))) Fun1.elt fun e => Fun1.len (Fun1.pure _))) (fun v => K v h) hk
    exact ⟨v, h3, fun bs K' hk' => tdK_iff.2 ⟨d, h1, by simp only [hdesc]; exact h4 (fun v => K' v (h ++ bs)) hk'⟩⟩
  · rename_i el id off len cap hdesc _
    obtain ⟨de, h2, hk⟩ := tdK_iff.1 hk
    obtain ⟨b, hb, hk⟩ := getK_iff.1 hk
    cases b with
    | row sz ex es =>
      obtain ⟨v, h3, h4⟩ := (Fun1.idx (i := n) (n := (len : Int)) (Fun1.len (m := sz) (n := de.sz) (Fun1.pure (LV.ptr id (off + n.toNat) 0)))) (fun v => K v h) hk
      exact ⟨v, h3, fun bs K' hk' => tdK_iff.2 ⟨d, h1, by simp only [hdesc]; exact tdK_iff.2 ⟨de, h2, getK_iff.2 ⟨_, get_app hb, h4 (fun v => K' v (h ++ bs)) hk'⟩⟩⟩⟩
    | _ => exact hk.elim
  · exact hk.elim

theorem isR_len {ty : Nat} {x : LV} : IsR (fun h K => lenK X h ty x fun v => K v h) := by
  intro h K hk
  obtain ⟨d, h1, hk⟩ := tdK_iff.1 hk
  split at hk
  · rename_i hdesc _
    exact ⟨_, hk, fun bs K' hk' => tdK_iff.2 ⟨d, h1, by simp only [hdesc]; exact hk'⟩⟩
  · rename_i hdesc _
    exact ⟨_, hk, fun bs K' hk' => tdK_iff.2 ⟨d, h1, by simp only [hdesc]; exact hk'⟩⟩
  · rename_i hdesc _
    exact ⟨_, hk, fun bs K' hk' => tdK_iff.2 ⟨d, h1, by simp only [hdesc]; exact hk'⟩⟩
  · rename_i hdesc _
    exact ⟨_, hk, fun bs K' hk' => tdK_iff.2 ⟨d, h1, by simp only [hdesc]; exact hk'⟩⟩
  · rename_i id hdesc _
    obtain ⟨b, hb, hk⟩ := getK_iff.1 hk
    cases b with
    | map ag kn m => exact ⟨_, hk, fun bs K' hk' => tdK_iff.2 ⟨d, h1, by simp only [hdesc]; exact getK_iff.2 ⟨_, get_app hb, hk'⟩⟩⟩
    | _ => exact hk.elim
  · exact hk.elim

theorem snoc_app {h : List Blk} {b : Blk} {k : Nat → List Blk → Prop} : snocK h b k ↔ k h.length (h ++ [b]) := snocK_iff

theorem isA_snoc {b : Blk} {f : Nat → LV} : IsA (fun h K => snocK h b fun n h' => K (f n) h') := by
  intro h K hk
  exact ⟨_, [b], snocK_iff.1 hk, fun K' hk' => snocK_iff.2 hk'⟩

theorem isA_buildSlice {ty len : Nat} {ps : List (Nat × LV)} : IsA (fun h K => buildSliceK X h ty len ps K) := by
  intro h K hk
  obtain ⟨d, h1, hk⟩ := tdK_iff.1 hk
  split at hk
  · rename_i el hdesc
    obtain ⟨de, h2, hk⟩ := tdK_iff.1 hk
    split at hk
    · exact hk.elim
    · rename_i hb
      have hF : Fun1 (fun k : List (List LV) → Prop => zerosK (de.zero.map .v) len fun zs => fillK (fun i kk => kk (i * de.sz) de.sz) zs ps fun cs => cleanK cs fun cs => chunkK de.sz len cs k) :=
        Fun1.bind Fun1.zeros fun zs => Fun1.bind (Fun1.fill fun i => ⟨fun k => k (i * de.sz, de.sz), Fun1.pure _, fun k => Iff.rfl⟩) fun cs => Fun1.bind Fun1.clean fun cs => Fun1.chunk
      obtain ⟨es, h3, h4⟩ := hF _ hk
      refine ⟨_, [.row de.sz true es], snocK_iff.1 h3, fun K' hk' => tdK_iff.2 ⟨d, h1, ?_⟩⟩
      simp only [hdesc]
      refine tdK_iff.2 ⟨de, h2, ?_⟩
      simp only [hb]
      exact h4 _ (snocK_iff.2 hk')
  · exact hk.elim

theorem isF_store {ty : Nat} {p x : LV} : IsF (fun h K => storeK X h ty p x fun h' => K (.v undefV) h') := by
  intro h K hk
  obtain ⟨d, h1, hk⟩ := tdK_iff.1 hk
  obtain ⟨cs, hk, hcs⟩ := Fun1.cells _ hk
  obtain ⟨hl, hk⟩ := lenB_iff.1 hk
  cases p with
  | ptr id i sub =>
    obtain ⟨b, hb, hk⟩ := getK_iff.1 hk
    cases b with
    | box old =>
      cases i with
      | zero =>
        obtain ⟨h', h3, h4⟩ := (Fun1.bind (F := spliceK old sub cs) (G := fun new k => setK h id (.box new) k) Fun1.splice fun new => Fun1.set) _ hk
        exact ⟨_, h', h3, fun K' hk' => tdK_iff.2 ⟨d, h1, hcs _ (lenB_iff.2 ⟨hl, getK_iff.2 ⟨_, hb, h4 _ hk'⟩⟩)⟩⟩
      | succ i => exact hk.elim
    | row sz ex es =>
      obtain ⟨h', h3, h4⟩ := (Fun1.bind (F := cleanK cs) (G := fun cs k => eltK es i fun e => spliceK e sub cs fun new => setK h id (.row sz ex (es.set i new)) k) Fun1.clean fun cs =>
        Fun1.bind (F := eltK es i) (G := fun e k => spliceK e sub cs fun new => setK h id (.row sz ex (es.set i new)) k) Fun1.elt fun e => Fun1.bind Fun1.splice fun new => Fun1.set) _ hk
      exact ⟨_, h', h3, fun K' hk' => tdK_iff.2 ⟨d, h1, hcs _ (lenB_iff.2 ⟨hl, getK_iff.2 ⟨_, hb, h4 _ hk'⟩⟩)⟩⟩
    | map ag kn m => exact hk.elim
    | dead => exact hk.elim
  | _ => exact hk.elim

theorem isR_elems {x : LV} : ∀ h (k : List (List LV) → Prop), elemsK h x k → ∃ ns, k ns ∧ ∀ k' : List (List LV) → Prop, k' ns → elemsK h x k' := by
  intro h k hk
  unfold elemsK at hk
  split at hk
  · exact ⟨_, hk, fun k' h' => h'⟩
  · exact ⟨_, hk, fun k' h' => h'⟩
  · obtain ⟨b, hb, hk⟩ := getK_iff.1 hk
    cases b with
    | row sz ex es => exact ⟨_, hk.2, fun k' h' => getK_iff.2 ⟨_, hb, hk.1, h'⟩⟩
    | _ => exact hk.elim
  · exact hk.elim

theorem isF_append {sz byt : Nat} {s x : LV} : IsF (fun h K => appendK h sz byt s x K) := by
  intro h K hk
  obtain ⟨ns, hk, hns⟩ := isR_elems h _ hk
  split at hk
  · obtain ⟨h1, h2, hk⟩ := hk
    cases ns with
    | nil => exact ⟨_, _, hk, fun K' hk' => hns _ ⟨h1, h2, hk'⟩⟩
    | cons e es => exact ⟨_, _, snocK_iff.1 hk, fun K' hk' => hns _ ⟨h1, h2, snocK_iff.2 hk'⟩⟩
  · rename_i id len
    obtain ⟨b, hb, hk⟩ := getK_iff.1 hk
    cases b with
    | row sz' ex es =>
      cases ex with
      | false =>
        obtain ⟨h1, h2, h3, h4, hk⟩ := hk
        obtain ⟨h5, hk⟩ := setK_iff.1 hk
        exact ⟨_, _, snocK_iff.1 hk, fun K' hk' => hns _ (getK_iff.2 ⟨_, hb, h1, h2, h3, h4, setK_iff.2 ⟨h5, snocK_iff.2 hk'⟩⟩)⟩
      | true => exact hk.elim
    | box cs => exact hk.elim
    | map ag kn m => exact hk.elim
    | dead => exact hk.elim
  · rename_i id len c
    obtain ⟨b, hb, hk⟩ := getK_iff.1 hk
    cases b with
    | row sz' ex es =>
      obtain ⟨h1, h2, h3, h4, es', n, h5, h6, hk⟩ := hk
      obtain ⟨h7, hk⟩ := setK_iff.1 hk
      exact ⟨_, _, hk, fun K' hk' => hns _ (getK_iff.2 ⟨_, hb, h1, h2, h3, h4, es', n, h5, h6, setK_iff.2 ⟨h7, hk'⟩⟩)⟩
    | box cs => exact hk.elim
    | map ag kn m => exact hk.elim
    | dead => exact hk.elim
  · exact hk.elim
end
end E
end Go.Proofs.YtjhognibibmeiaaGreatDoor
