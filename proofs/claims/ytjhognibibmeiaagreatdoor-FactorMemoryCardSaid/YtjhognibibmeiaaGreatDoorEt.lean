/-
  THE EVALUATOR, nineteenth part: contracts of this seat's functions in a list; how a function is added.
-/
import Derived.Test.YtjhognibibmeiaaGreatDoorTab
import Derived.Test.YtjhognibibmeiaaGreatDoorEs
set_option linter.unusedVariables false
namespace Go.Proofs.YtjhognibibmeiaaGreatDoor
namespace E
open Go Go.RowKit

noncomputable abbrev PR : Program := Tryz.prog

def PFun (S : PSpec) : Prop := ∀ args, Fun1 (S args)

section
variable {h : List Blk}
theorem outCell_app {x : LV} {k : LV → Bool → Prop} (hk : outCell h x k) : ∃ l b, k l b ∧ ∀ bs (k' : LV → Bool → Prop), k' l b → outCell (h ++ bs) x k' := by
  unfold outCell at hk
  split at hk
  · exact ⟨_, _, hk, fun bs k' h' => h'⟩
  · rename_i y hne
    refine ⟨_, _, hk, fun bs k' h' => ?_⟩
    unfold outCell
    split
    · rename_i heq; injection heq with heq; exact absurd heq hne
    · rename_i heq; injection heq with heq; subst heq; exact h'
    · rename_i heq; cases heq
    · rename_i heq; cases heq
    · rename_i heq; cases heq
    · rename_i h1 h2 h3 h4 h5; first | exact (h1 _).elim | exact absurd rfl (h2 _) | exact absurd rfl (h1 _)
  · exact ⟨_, _, hk, fun bs k' h' => h'⟩
  · exact ⟨_, _, hk, fun bs k' h' => h'⟩
  · obtain ⟨b, hb, hk⟩ := getK_iff.1 hk
    cases b with
    | row sz ex es => exact ⟨_, _, hk.2, fun bs k' h' => getK_iff.2 ⟨_, get_app hb, hk.1, h'⟩⟩
    | _ => exact hk.elim
  · exact hk.elim
theorem outCells_app : ∀ {xs : List LV} {k : List LV → Bool → Prop}, outCells h xs k → ∃ l b, k l b ∧ ∀ bs (k' : List LV → Bool → Prop), k' l b → outCells (h ++ bs) xs k'
  | [], k, hk => ⟨[], false, hk, fun bs k' h' => h'⟩
  | x :: xs, k, hk => by
    obtain ⟨l, b, h1, h2⟩ := outCell_app hk
    obtain ⟨ls, c, h3, h4⟩ := outCells_app h1
    exact ⟨_, _, h3, fun bs k' h' => h2 bs _ (h4 bs _ h')⟩
theorem out1_app {x : LV} {k : LV → Bool → Prop} (hk : out1 h x k) : ∃ l b, k l b ∧ ∀ bs (k' : LV → Bool → Prop), k' l b → out1 (h ++ bs) x k' := by
  unfold out1 at hk
  split at hk
  · obtain ⟨ls, c, h3, h4⟩ := outCells_app hk
    exact ⟨_, _, h3, fun bs k' h' => h4 bs _ h'⟩
  · rename_i hne
    obtain ⟨ls, c, h3, h4⟩ := outCell_app hk
    refine ⟨_, _, h3, fun bs k' h' => ?_⟩
    unfold out1
    split
    · exact absurd rfl (hne _)
    · exact h4 bs _ h'
theorem outs_app : ∀ {xs : List LV} {k : List LV → Bool → Prop}, outs h xs k → ∃ l b, k l b ∧ ∀ bs (k' : List LV → Bool → Prop), k' l b → outs (h ++ bs) xs k'
  | [], k, hk => ⟨[], false, hk, fun bs k' h' => h'⟩
  | x :: xs, k, hk => by
    obtain ⟨l, b, h1, h2⟩ := out1_app hk
    obtain ⟨ls, c, h3, h4⟩ := outs_app h1
    exact ⟨_, _, h3, fun bs k' h' => h2 bs _ (h4 bs _ h')⟩
end

theorem rspec_lift {S : PSpec} (hS : PFun S) : CSpec 1 (lift S) := by
  intro args
  refine IsR.c (fun h K hk => ?_) (Nat.le_refl _)
  obtain ⟨as0, b, h1, h2⟩ := outs_app hk
  obtain ⟨r, h3, h4⟩ := hS as0 _ h1
  split at h3
  · rename_i hc
    exact ⟨r, normK_iff.1 h3, fun bs K' hk' => h2 bs _ (h4 _ (by rw [hc]; exact normK_iff.2 hk'))⟩
  · exact h3.elim

/-- Answers by cases. -/
inductive T where
  | r (v : LV)
  | c (b : Bool) (x y : T)
instance : Coe LV T := ⟨T.r⟩
def runT : T → (LV → Prop) → Prop
  | .r v, k => k v
  | .c b x y, k => pickB b (runT x k) (runT y k)
theorem runT_fun : ∀ t : T, Fun1 (runT t)
  | .r v => Fun1.pure v
  | .c b x y => Fun1.pick (runT_fun x) (runT_fun y)
theorem pickB_yes {b : Bool} {A B : Prop} (h : b = true) (hA : A) : pickB b A B := by rw [h]; exact hA
theorem pickB_no {b : Bool} {A B : Prop} (h : b = false) (hB : B) : pickB b A B := by rw [h]; exact hB
theorem pickB_gt {b : Bool} {A B : Prop} (h : pickB b A B) (hb : b = true) : A := by rw [hb] at h; exact h
theorem pickB_gf {b : Bool} {A B : Prop} (h : pickB b A B) (hb : b = false) : B := by rw [hb] at h; exact h
theorem pickB_t {A B : Prop} : pickB true A B = A := rfl
theorem pickB_f {A B : Prop} : pickB false A B = B := rfl
/-- A contract that is reckoned. -/
def pspec (f : List LV → Option T) : PSpec := fun as0 K =>
  match f as0 with
  | some r => runT r K
  | none => False
theorem pspec_fun (f : List LV → Option T) : PFun (pspec f) := by
  intro as0 k hk
  unfold pspec at hk
  split at hk
  · rename_i r h
    obtain ⟨v, h1, h2⟩ := runT_fun r _ hk
    exact ⟨v, h1, fun k' h' => by unfold pspec; rw [h]; exact h2 _ h'⟩
  · exact hk.elim
/-- A contract that is told: arguments, what is asked of them, the answer. -/
def espec {α : Type} (args : α → List LV) (pre : α → Prop) (res : α → LV) : PSpec := fun as0 K => ∃ a, as0 = args a ∧ pre a ∧ K (res a)
theorem espec_fun {α : Type} {args : α → List LV} {pre : α → Prop} {res : α → LV} : PFun (espec args pre res) := by
  rintro as0 k ⟨a, h1, h2, h3⟩
  exact ⟨_, h3, fun k' h' => ⟨a, h1, h2, h'⟩⟩

structure Ent where
  g : Nat
  S : Spec
  ok : CallOK PR GL g S
  r : Nat
  rok : CSpec r S

def specOf : List Ent → Nat → Spec
  | [], _ => fun _ _ _ => False
  | e :: l, n =>
    match Nat.beq e.g n with
    | true => e.S
    | false => specOf l n
def rOf : List Ent → Nat → Nat
  | [], _ => 1
  | e :: l, n =>
    match Nat.beq e.g n with
    | true => e.r
    | false => rOf l n
def allR : List Ent → Nat
  | [] => 1
  | e :: l => Nat.max (low e.r) (allR l)

theorem specOf_ok : ∀ (l : List Ent) (n : Nat), CallOK PR GL n (specOf l n)
  | [], n => fun _ _ _ h => h.elim
  | e :: l, n => by
    unfold specOf
    split
    · rename_i h; exact Nat.eq_of_beq_eq_true h ▸ e.ok
    · exact specOf_ok l n
theorem cspec_no (c : Nat) : CSpec c (fun _ _ _ => False) := fun args =>
  ⟨fun h0 => absurd h0 (by unfold low; split <;> simp), fun _ => IsR.no, fun _ => IsR.no.a, fun _ => IsR.no.a.f⟩
theorem rOf_ok : ∀ (l : List Ent) (n : Nat), CSpec (rOf l n) (specOf l n)
  | [], n => cspec_no _
  | e :: l, n => by
    unfold specOf rOf
    split
    · exact e.rok
    · exact rOf_ok l n
theorem isC_le {F : Fn2} {c d : Nat} (h : IsC c F) (hcd : c ≤ d) (hd : d ≠ 0) : IsC d F :=
  ⟨fun h0 => absurd h0 hd, fun h1 => h.2.1 (by omega), fun h1 => h.2.2.1 (by omega), fun h1 => h.2.2.2 (by omega)⟩
theorem low_pos (c : Nat) : low c ≠ 0 := by unfold low; split <;> simp
theorem low_le (c : Nat) : low c ≤ 4 := by unfold low; split <;> simp
theorem low_low {c : Nat} (h0 : c ≠ 0) (h : c ≤ 4) : low c = c := by
  match c, h0, h with
  | 1, _, _ => rfl
  | 2, _, _ => rfl
  | 3, _, _ => rfl
  | 4, _, _ => rfl
theorem allR_le : ∀ (l : List Ent), allR l ≠ 0 ∧ allR l ≤ 4
  | [] => ⟨by simp [allR], by simp [allR]⟩
  | e :: l => by
    have h1 := allR_le l
    have h2 := low_pos e.r
    have h3 := low_le e.r
    have : allR (e :: l) = Nat.max (low e.r) (allR l) := rfl
    rw [this]
    constructor
    · have : low e.r ≤ Nat.max (low e.r) (allR l) := Nat.le_max_left _ _
      exact fun h => by rw [h] at this; omega
    · exact Nat.max_le.2 ⟨h3, h1.2⟩
theorem allR_ok : ∀ (l : List Ent) (n : Nat), CSpec (allR l) (specOf l n)
  | [], n => cspec_no _
  | e :: l, n => by
    intro args
    have h0 := allR_le (e :: l)
    have h1 := allR_le l
    rw [low_low h0.1 h0.2]
    unfold specOf
    cases hb : Nat.beq e.g n with
    | true => exact isC_le (e.rok args) (Nat.le_max_left _ _) h0.1
    | false =>
      have := allR_ok l n args
      rw [low_low h1.1 h1.2] at this
      exact isC_le this (Nat.le_max_right _ _) h0.1

noncomputable def XC (l : List Ent) : Ctx := ⟨tabT, specOf l, fun _ => false, memN eqL, GL⟩
theorem XC_ok (l : List Ent) : OK PR (XC l) := ⟨tabT_ok, eqL_ok, specOf_ok l⟩
theorem mixed_ok : PR.follows .mixedOrders = true := by kernel_rfl
noncomputable abbrev ordL (l : List Ent) : Array Oper → Bool := ordB (rOf l) (allR l)
theorem XC_ord (l : List Ent) : OrdOK PR (XC l) (ordL l) := ord_ok mixed_ok (rOf_ok l) (allR_ok l)

theorem mkA {g : Nat} {fn : Func} {S : PSpec} (l : List Ent) (u : Nat) (hf : PR.funcs[g]? = some fn) (hd : drawsF (ordL l) fn = true) (hn : (fn.name == "runtime.NumGoroutine") = false)
    (hS : ∀ args K, S args K → bodyK PR (XC l) u fn args [] fun r h => out2 h r fun r' _ => K r') : SoundA PR GL g S :=
  soundA_body u (XC_ok l) (XC_ord l) hf hd hn hS
theorem mkC {g : Nat} {fn : Func} {S : Spec} (l : List Ent) (u : Nat) (hf : PR.funcs[g]? = some fn) (hd : drawsF (ordL l) fn = true) (hn : (fn.name == "runtime.NumGoroutine") = false)
    (hS : ∀ args h K, S args h K → bodyK PR (XC l) u fn args h K) : CallOK PR GL g S :=
  callOK_body u (XC_ok l) (XC_ord l) hf hd hn hS
noncomputable def entA {g : Nat} {S : PSpec} (h : SoundA PR GL g S) (hf : PFun S) : Ent := ⟨g, lift S, callOK_lift h, 1, rspec_lift hf⟩
noncomputable def entC {g : Nat} {S : Spec} (c : Nat) (h : CallOK PR GL g S) (hc : CSpec c S) : Ent := ⟨g, S, h, c, hc⟩
theorem cspec4 (S : Spec) : CSpec 4 S := fun args => isC_none _
noncomputable def entD {g : Nat} {S : PSpec} (h : SoundA PR GL g S) : Ent := ⟨g, liftD S, callOK_liftD h, 4, cspec4 _⟩
theorem stepL (l : List Ent) (u : Nat) {m : Nat} {c : Code} {s : St} {Q : Exit → St → Prop} (hd : draws (ordL l) c = true) (h : code PR (XC l) m u c s fun e s' => match e with | .normal => LoopP PR (XC l) m c s' Q | e => Q e s') : LoopP PR (XC l) m c s Q :=
  LoopP.step (XC_ok l) (XC_ord l) u hd h

/-! ### Values -/
abbrev I (a : Int) : LV := .v (.int .i64 a)
abbrev Bo (a : Bool) : LV := .v (.bool a)
abbrev w (n : Int) : Int := IntKind.i64.wrap n
theorem pickB_of {b : Bool} {A B : Prop} (h1 : b = true → A) (h2 : b = false → B) : pickB b A B := pickB_iff.2 ⟨h1, h2⟩
end E
end Go.Proofs.YtjhognibibmeiaaGreatDoor
