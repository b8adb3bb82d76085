/-
  THE FUNCTIONS, third part: the rest of frac (its closures too).
-/
import Derived.Test.YtjhognibibmeiaaGreatDoorHb
set_option linter.unusedVariables false
set_option maxRecDepth 100000
set_option maxHeartbeats 4000000
namespace Go.Proofs.YtjhognibibmeiaaGreatDoor
namespace E
open Go Go.RowKit

/-- A contract of two whole numbers, the second not 0. -/
def p2nz (f : Int → Int → LV) : PSpec := fun as0 K =>
  match as0 with
  | [.v (.int .i64 n), .v (.int .i64 m)] => nzB m (K (f n m))
  | _ => False
theorem p2nz_fun (f : Int → Int → LV) : PFun (p2nz f) := by
  intro as0 k hk
  unfold p2nz at hk
  split at hk
  · exact Fun1.nz (Fun1.pure _) k hk
  · exact hk.elim
theorem p2nz_inv {f : Int → Int → LV} {l : List LV} {K : LV → Prop} (h : p2nz f l K) : ∃ n m, l = [I n, I m] ∧ m ≠ 0 ∧ K (f n m) := by
  unfold p2nz at h
  split at h
  · obtain ⟨h1, h2⟩ := nzB_iff.1 h
    exact ⟨_, _, rfl, h1, h2⟩
  · exact h.elim

def modF (n m : Int) : Int := (w (n.tmod m + m)).tmod m
def S92 : PSpec := p2nz fun n m => I (modF n m)
theorem s92 : SoundA PR GL 112 S92 := mkA [] 0 Tryz.func112 (by kernel_rfl) (by kernel_rfl) fun args K hk => by
  obtain ⟨n, m, rfl, hm, hk⟩ := p2nz_inv hk
  conv => whnf
  refine nzB_iff.2 ⟨hm, ?_⟩
  conv => whnf
  refine nzB_iff.2 ⟨hm, ?_⟩
  conv => whnf
  exact hk
noncomputable def e92 : Ent := entA s92 (p2nz_fun _)

theorem s69 : SoundA PR GL 90 S69 := mkA [] 0 Tryz.func90 (by kernel_rfl) (by kernel_rfl) fun args K hk => by
  have hk1 := p1_inv hk
  clear hk
  obtain ⟨a, rfl, hk⟩ := hk1
  conv => whnf
  refine pickB_of (fun h => ?_) (fun h => ?_)
  · simp at h
  · conv => whnf
    exact hk
noncomputable def e69 : Ent := entA s69 (pspec_fun _)
theorem s48 : SoundA PR GL 69 S48 := mkA [e69] 0 Tryz.func69 (by kernel_rfl) (by kernel_rfl) fun args K hk => by
  have hk1 := p2_inv hk
  clear hk
  obtain ⟨a, b, rfl, hk⟩ := hk1
  conv => whnf
  repeat' ((first
            | refine pickB_yes (by assumption) ?_
            | refine pickB_no (by assumption) ?_
            | refine pickB_of (fun _ => ?_) (fun _ => ?_)
            | refine And.intro (Nat.le_refl _) ?_) <;> (conv => whnf))
  all_goals (repeat (first | replace hk := pickB_gt hk (by assumption) | replace hk := pickB_gf hk (by assumption)))
  all_goals first | exact hk | (simp only [C, runT, pickB_t, pickB_f, *, cond_true, cond_false] at hk; exact hk)
noncomputable def e48 : Ent := entA s48 (pspec_fun _)

/-! ### Closures: what they captured is read out of its boxes -/
def unboxK (h : List Blk) : List LV → (List (List LV) → Prop) → Prop
  | [], k => k []
  | .ptr id 0 0 :: r, k => getK h id fun b =>
    (match b with
     | .box cs => unboxK h r fun rs => k (cs :: rs)
     | _ => False)
  | _ :: _, _ => False
theorem unboxK_ok {h : List Blk} : ∀ {caps : List LV} {k : List (List LV) → Prop}, unboxK h caps k → ∃ bs, k bs ∧ (∀ ds (k' : List (List LV) → Prop), k' bs → unboxK (h ++ ds) caps k') ∧
    caps.length = bs.length ∧ ∀ (i : Nat) c b, caps[i]? = some c → bs[i]? = some b → ∃ id, c = .ptr id 0 0 ∧ h[id]? = some (.box b) := by
  intro caps
  induction caps with
  | nil => intro k hk; exact ⟨[], hk, fun ds k' h' => h', rfl, by simp⟩
  | cons c r ih =>
    intro k hk
    unfold unboxK at hk
    split at hk
    · rename_i h1; cases h1
    · rename_i kk id r' h1
      injection h1 with h1 h1'
      subst h1 h1'
      obtain ⟨b, hb, hk⟩ := getK_iff.1 hk
      cases b with
      | box cs =>
        obtain ⟨bs, h2, h3, h4, h5⟩ := ih hk
        refine ⟨cs :: bs, h2, fun ds k' h' => ?_, by simp [h4], fun i c b hc hb' => ?_⟩
        · unfold unboxK
          exact getK_iff.2 ⟨_, get_app hb, h3 ds _ h'⟩
        · cases i with
          | zero => simp at hc hb'; subst hc hb'; exact ⟨id, rfl, hb⟩
          | succ i => exact h5 i c b (by simpa using hc) (by simpa using hb')
      | _ => exact hk.elim
    · exact hk.elim
theorem unbox2 {h : List Blk} {caps : List LV} {x y : List LV} {k : List (List LV) → Prop} (hu : unboxK h caps fun bs => bs = [x, y] ∧ k bs) : ∃ a b, caps = [.ptr a 0 0, .ptr b 0 0] ∧ h[a]? = some (.box x) ∧ h[b]? = some (.box y) ∧ k [x, y] := by
  obtain ⟨bs, ⟨h1, h1'⟩, _, h2, h3⟩ := unboxK_ok hu
  subst h1
  match caps, h2 with
  | [c, d], _ =>
    obtain ⟨a, rfl, ha⟩ := h3 0 c x rfl rfl
    obtain ⟨b, rfl, hb⟩ := h3 1 d y rfl rfl
    exact ⟨a, b, rfl, ha, hb, h1'⟩

/-- A closure of one whole number. -/
def cloS (f : Int → List (List LV) → (LV → Prop) → Prop) : Spec := fun args h K =>
  match args with
  | .v (.int .i64 i) :: caps => unboxK h caps fun bs => f i bs fun r => K r h
  | _ => False
theorem cloS_r {f : Int → List (List LV) → (LV → Prop) → Prop} (hf : ∀ i bs, Fun1 (f i bs)) : CSpec 1 (cloS f) := by
  intro args
  refine IsR.c (fun h K hk => ?_) (Nat.le_refl _)
  unfold cloS at hk
  split at hk
  · obtain ⟨bs, h1, h2, _⟩ := unboxK_ok hk
    obtain ⟨r, h3, h4⟩ := hf _ _ _ h1
    exact ⟨r, h3, fun ds K' hk' => h2 ds _ (h4 _ hk')⟩
  · exact hk.elim

def pick3 (i x y z : Int) (k : Int → Prop) : Prop := pickB (i == 0) (k x) (pickB (i == 1) (k y) (pickB (i == 2) (k z) False))
theorem Fun1.p3 {i x y z : Int} {F : Int → (LV → Prop) → Prop} (hF : ∀ a, Fun1 (F a)) : Fun1 (fun k => pick3 i x y z fun a => F a k) :=
  Fun1.pick (hF x) (Fun1.pick (hF y) (Fun1.pick (hF z) Fun1.false))
theorem pick3_inv {i x y z : Int} {k : Int → Prop} (h : pick3 i x y z k) : (i = 0 ∧ k x) ∨ (i = 1 ∧ k y) ∨ (i = 2 ∧ k z) := by
  unfold pick3 at h
  rw [pickB_iff, pickB_iff, pickB_iff] at h
  obtain ⟨h1, h2⟩ := h
  cases h0 : i == 0 with
  | true => exact .inl ⟨by simpa using h0, h1 h0⟩
  | false =>
    obtain ⟨h3, h4⟩ := h2 h0
    cases h0 : i == 1 with
    | true => exact .inr (.inl ⟨by simpa using h0, h3 h0⟩)
    | false =>
      obtain ⟨h5, h6⟩ := h4 h0
      cases h0 : i == 2 with
      | true => exact .inr (.inr ⟨by simpa using h0, h5 h0⟩)
      | false => exact (h6 h0).elim

/-- Place's: a column and M. -/
def f109 (i : Int) (bs : List (List LV)) (k : LV → Prop) : Prop :=
  match bs with
  | [[.v (.int .i64 x), .v (.int .i64 y), .v (.int .i64 z)], [.v (.int .i64 m)]] => nzB m (pick3 i x y z fun a => k (I (modF a m)))
  | _ => False
theorem f109_fun (i : Int) (bs : List (List LV)) : Fun1 (f109 i bs) := by
  intro k hk
  unfold f109 at hk
  split at hk
  · exact (Fun1.nz (Fun1.p3 fun a => Fun1.pure _)) k hk
  · exact hk.elim
theorem f109_inv {i : Int} {bs : List (List LV)} {k : LV → Prop} (h : f109 i bs k) : ∃ x y z m, bs = [[I x, I y, I z], [I m]] ∧ m ≠ 0 ∧ pick3 i x y z fun a => k (I (modF a m)) := by
  unfold f109 at h
  split at h
  · obtain ⟨h1, h2⟩ := nzB_iff.1 h
    exact ⟨_, _, _, _, rfl, h1, h2⟩
  · exact h.elim
theorem cloS_inv {f : Int → List (List LV) → (LV → Prop) → Prop} {args : List LV} {h : List Blk} {K : LV → List Blk → Prop} (hk : cloS f args h K) : ∃ i caps bs, args = I i :: caps ∧ f i bs (fun r => K r h) ∧
    unboxK h caps (fun bs' => bs' = bs) := by
  unfold cloS at hk
  split at hk
  · obtain ⟨bs, h1, h2, _⟩ := unboxK_ok hk
    have := h2 [] (fun bs' => bs' = bs) rfl
    rw [List.append_nil] at this
    exact ⟨_, _, bs, rfl, h1, this⟩
  · exact hk.elim

theorem s109 : CallOK PR GL 129 (cloS f109) := mkC [e92] 0 Tryz.func129 (by kernel_rfl) (by kernel_rfl) fun args h K hk => by
  obtain ⟨i, caps, bs, rfl, hk1, hu⟩ := cloS_inv hk
  clear hk
  obtain ⟨x, y, z, m, rfl, hm, hk⟩ := f109_inv hk1
  clear hk1
  obtain ⟨a, b, rfl, ha, hb, _⟩ := unbox2 (k := fun _ => True) (by
    obtain ⟨bs, h1, h2, _⟩ := unboxK_ok hu
    have := h2 [] (fun bs' => bs' = [[I x, I y, I z], [I m]] ∧ True) ⟨h1, trivial⟩
    rwa [List.append_nil] at this)
  clear hu
  have hk2 := pick3_inv hk
  clear hk
  rcases hk2 with ⟨rfl, hk⟩ | ⟨rfl, hk⟩ | ⟨rfl, hk⟩
  all_goals
    repeat' (conv => whnf
             first
              | refine getK_iff.2 ⟨_, ha, ?_⟩
              | refine getK_iff.2 ⟨_, hb, ?_⟩
              | refine nzB_iff.2 ⟨hm, ?_⟩)
    conv => whnf
    exact hk
noncomputable def e109 : Ent := entC 1 s109 (cloS_r f109_fun)

/-- Shift's: a place and a translation. -/
def shF (x t m : Int) : Int := w (x + w (t.tmod 24 * w (m.tdiv 24)))
def f110 (i : Int) (bs : List (List LV)) (k : LV → Prop) : Prop :=
  match bs with
  | [[.v (.int .i64 m), .v (.int .i64 x), .v (.int .i64 y), .v (.int .i64 z)], [.v (.int .i64 a), .v (.int .i64 b), .v (.int .i64 c)]] =>
    pickB (i == 0) (k (I (shF x a m))) (pickB (i == 1) (k (I (shF y b m))) (pickB (i == 2) (k (I (shF z c m))) False))
  | _ => False
theorem f110_fun (i : Int) (bs : List (List LV)) : Fun1 (f110 i bs) := by
  intro k hk
  unfold f110 at hk
  split at hk
  · exact (Fun1.pick (Fun1.pure _) (Fun1.pick (Fun1.pure _) (Fun1.pick (Fun1.pure _) Fun1.false))) k hk
  · exact hk.elim
theorem f110_inv {i : Int} {bs : List (List LV)} {k : LV → Prop} (h : f110 i bs k) : ∃ m x y z a b c, bs = [[I m, I x, I y, I z], [I a, I b, I c]] ∧
    ((i = 0 ∧ k (I (shF x a m))) ∨ (i = 1 ∧ k (I (shF y b m))) ∨ (i = 2 ∧ k (I (shF z c m)))) := by
  unfold f110 at h
  split at h
  · rename_i m x y z a b c
    refine ⟨m, x, y, z, a, b, c, rfl, ?_⟩
    rw [pickB_iff, pickB_iff, pickB_iff] at h
    obtain ⟨h1, h2⟩ := h
    cases h0 : i == 0 with
    | true => exact .inl ⟨by simpa using h0, h1 h0⟩
    | false =>
      obtain ⟨h3, h4⟩ := h2 h0
      cases h0 : i == 1 with
      | true => exact .inr (.inl ⟨by simpa using h0, h3 h0⟩)
      | false =>
        obtain ⟨h5, h6⟩ := h4 h0
        cases h0 : i == 2 with
        | true => exact .inr (.inr ⟨by simpa using h0, h5 h0⟩)
        | false => exact (h6 h0).elim
  · exact h.elim
theorem s110 : CallOK PR GL 130 (cloS f110) := mkC [] 0 Tryz.func130 (by kernel_rfl) (by kernel_rfl) fun args h K hk => by
  obtain ⟨i, caps, bs, rfl, hk1, hu⟩ := cloS_inv hk
  clear hk
  obtain ⟨m, x, y, z, a', b', c', rfl, hk2⟩ := f110_inv hk1
  clear hk1
  obtain ⟨a, b, rfl, ha, hb, _⟩ := unbox2 (k := fun _ => True) (by
    obtain ⟨bs, h1, h2, _⟩ := unboxK_ok hu
    have := h2 [] (fun bs' => bs' = [[I m, I x, I y, I z], [I a', I b', I c']] ∧ True) ⟨h1, trivial⟩
    rwa [List.append_nil] at this)
  clear hu
  rcases hk2 with ⟨rfl, hk⟩ | ⟨rfl, hk⟩ | ⟨rfl, hk⟩
  all_goals
    repeat' (conv => whnf
             first
              | refine getK_iff.2 ⟨_, ha, ?_⟩
              | refine getK_iff.2 ⟨_, hb, ?_⟩)
    conv => whnf
    exact hk
noncomputable def e110 : Ent := entC 1 s110 (cloS_r f110_fun)

/-- Add's: two translations. -/
def addF (a b : Int) : Int := modF (w (a.tmod 24 + b.tmod 24)) 24
def f91 (i : Int) (bs : List (List LV)) (k : LV → Prop) : Prop :=
  match bs with
  | [[.v (.int .i64 x), .v (.int .i64 y), .v (.int .i64 z)], [.v (.int .i64 a), .v (.int .i64 b), .v (.int .i64 c)]] =>
    pickB (i == 0) (k (I (addF x a))) (pickB (i == 1) (k (I (addF y b))) (pickB (i == 2) (k (I (addF z c))) False))
  | _ => False
theorem f91_fun (i : Int) (bs : List (List LV)) : Fun1 (f91 i bs) := by
  intro k hk
  unfold f91 at hk
  split at hk
  · exact (Fun1.pick (Fun1.pure _) (Fun1.pick (Fun1.pure _) (Fun1.pick (Fun1.pure _) Fun1.false))) k hk
  · exact hk.elim
theorem f91_inv {i : Int} {bs : List (List LV)} {k : LV → Prop} (h : f91 i bs k) : ∃ x y z a b c, bs = [[I x, I y, I z], [I a, I b, I c]] ∧
    ((i = 0 ∧ k (I (addF x a))) ∨ (i = 1 ∧ k (I (addF y b))) ∨ (i = 2 ∧ k (I (addF z c)))) := by
  unfold f91 at h
  split at h
  · rename_i x y z a b c
    refine ⟨x, y, z, a, b, c, rfl, ?_⟩
    rw [pickB_iff, pickB_iff, pickB_iff] at h
    obtain ⟨h1, h2⟩ := h
    cases h0 : i == 0 with
    | true => exact .inl ⟨by simpa using h0, h1 h0⟩
    | false =>
      obtain ⟨h3, h4⟩ := h2 h0
      cases h0 : i == 1 with
      | true => exact .inr (.inl ⟨by simpa using h0, h3 h0⟩)
      | false =>
        obtain ⟨h5, h6⟩ := h4 h0
        cases h0 : i == 2 with
        | true => exact .inr (.inr ⟨by simpa using h0, h5 h0⟩)
        | false => exact (h6 h0).elim
  · exact h.elim
theorem s91 : CallOK PR GL 111 (cloS f91) := mkC [e92] 0 Tryz.func111 (by kernel_rfl) (by kernel_rfl) fun args h K hk => by
  obtain ⟨i, caps, bs, rfl, hk1, hu⟩ := cloS_inv hk
  clear hk
  obtain ⟨x, y, z, a', b', c', rfl, hk2⟩ := f91_inv hk1
  clear hk1
  obtain ⟨a, b, rfl, ha, hb, _⟩ := unbox2 (k := fun _ => True) (by
    obtain ⟨bs, h1, h2, _⟩ := unboxK_ok hu
    have := h2 [] (fun bs' => bs' = [[I x, I y, I z], [I a', I b', I c']] ∧ True) ⟨h1, trivial⟩
    rwa [List.append_nil] at this)
  clear hu
  rcases hk2 with ⟨rfl, hk⟩ | ⟨rfl, hk⟩ | ⟨rfl, hk⟩
  all_goals
    repeat' (conv => whnf
             first
              | refine getK_iff.2 ⟨_, ha, ?_⟩
              | refine getK_iff.2 ⟨_, hb, ?_⟩)
    conv => whnf
    exact hk
noncomputable def e91 : Ent := entC 1 s91 (cloS_r f91_fun)

/-! ### each, of one closure -/
def eachS (g : Nat) (F : List (List LV) → (V → Prop) → Prop) : Spec := fun args h K =>
  match args with
  | [.clo g' caps] =>
    (match Nat.beq g' g with
     | true => unboxK h caps fun bs => F bs fun v => K (.agg (eV v)) (h ++ [.box (eV v)])
     | false => False)
  | _ => False
theorem eachS_a {g : Nat} {F : List (List LV) → (V → Prop) → Prop} (hF : ∀ bs, Fun1 (F bs)) : CSpec 2 (eachS g F) := by
  intro args
  refine IsA.c (fun h K hk => ?_) (Nat.le_refl _)
  unfold eachS at hk
  split at hk
  · split at hk
    · rename_i hb
      obtain ⟨bs, h1, h2, _⟩ := unboxK_ok hk
      obtain ⟨v, h3, h4⟩ := hF _ _ h1
      refine ⟨_, [.box (eV v)], h3, fun K' hk' => ?_⟩
      unfold eachS
      simp only [hb]
      have := h2 [] (fun bs => F bs fun v => K' (.agg (eV v)) (h ++ [.box (eV v)])) (h4 (fun v => K' (.agg (eV v)) (h ++ [.box (eV v)])) hk')
      rwa [List.append_nil] at this
    · exact hk.elim
  · exact hk.elim
theorem eachS_inv {g : Nat} {F : List (List LV) → (V → Prop) → Prop} {args : List LV} {h : List Blk} {K : LV → List Blk → Prop} (hk : eachS g F args h K) : ∃ caps bs, args = [.clo g caps] ∧
    (F bs fun v => K (.agg (eV v)) (h ++ [.box (eV v)])) ∧ unboxK h caps (fun bs' => bs' = bs) := by
  unfold eachS at hk
  split at hk
  · split at hk
    · rename_i hb
      obtain ⟨bs, h1, h2, _⟩ := unboxK_ok hk
      have := h2 [] (fun bs' => bs' = bs) rfl
      rw [List.append_nil] at this
      exact ⟨_, bs, by rw [Nat.eq_of_beq_eq_true hb], h1, this⟩
    · exact hk.elim
  · exact hk.elim
theorem set_snoc {α : Type} {h : List α} {b b' : α} : (h ++ [b]).set h.length b' = h ++ [b'] := by simp
theorem get_snoc {α : Type} {h : List α} {b : α} : (h ++ [b])[h.length]? = some b := by simp

def F109 (bs : List (List LV)) (k : V → Prop) : Prop :=
  match bs with
  | [[.v (.int .i64 x), .v (.int .i64 y), .v (.int .i64 z)], [.v (.int .i64 m)]] => nzB m (k ⟨modF x m, modF y m, modF z m⟩)
  | _ => False
theorem F109_fun (bs : List (List LV)) : Fun1 (F109 bs) := by
  intro k hk
  unfold F109 at hk
  split at hk
  · exact (Fun1.nz (Fun1.pure _)) k hk
  · exact hk.elim
theorem s90p : CallOK PR GL 110 (eachS 129 F109) := mkC [e109] 0 Tryz.func110 (by kernel_rfl) (by kernel_rfl) fun args h K hk => by
  obtain ⟨caps, bs, rfl, hk1, hu⟩ := eachS_inv hk
  clear hk
  have hk2 : ∃ x y z m, bs = [[I x, I y, I z], [I m]] ∧ m ≠ 0 ∧ K (.agg (eV ⟨modF x m, modF y m, modF z m⟩)) (h ++ [.box (eV ⟨modF x m, modF y m, modF z m⟩)]) := by
    unfold F109 at hk1
    split at hk1
    · obtain ⟨h1, h2⟩ := nzB_iff.1 hk1
      exact ⟨_, _, _, _, rfl, h1, h2⟩
    · exact hk1.elim
  clear hk1
  obtain ⟨x, y, z, m, rfl, hm, hk⟩ := hk2
  obtain ⟨a, b, rfl, ha, hb, _⟩ := unbox2 (k := fun _ => True) (by
    obtain ⟨bs, h1, h2, _⟩ := unboxK_ok hu
    have := h2 [] (fun bs' => bs' = [[I x, I y, I z], [I m]] ∧ True) ⟨h1, trivial⟩
    rwa [List.append_nil] at this)
  clear hu
  repeat' (conv => whnf
           first
            | refine getK_iff.2 ⟨_, get_app ha, ?_⟩
            | refine getK_iff.2 ⟨_, get_app hb, ?_⟩
            | refine getK_iff.2 ⟨_, get_snoc, ?_⟩
            | refine setK_iff.2 ⟨by simp, ?_⟩
            | refine snocK_iff.2 ?_
            | refine nzB_iff.2 ⟨hm, ?_⟩)
  conv => whnf
  rw [set_snoc]
  refine getK_iff.2 ⟨_, get_snoc, ?_⟩
  conv => whnf
  exact hk
noncomputable def e90p : Ent := entC 2 s90p (eachS_a F109_fun)

def each2 (g : Int → Int → Int) (bs : List (List LV)) (k : V → Prop) : Prop :=
  match bs with
  | [[.v (.int .i64 x), .v (.int .i64 y), .v (.int .i64 z)], [.v (.int .i64 a), .v (.int .i64 b), .v (.int .i64 c)]] => k ⟨g x a, g y b, g z c⟩
  | _ => False
theorem each2_fun (g : Int → Int → Int) (bs : List (List LV)) : Fun1 (each2 g bs) := by
  intro k hk
  unfold each2 at hk
  split at hk
  · exact (Fun1.pure _) k hk
  · exact hk.elim
theorem s90a : CallOK PR GL 110 (eachS 111 (each2 addF)) := mkC [e91] 0 Tryz.func110 (by kernel_rfl) (by kernel_rfl) fun args h K hk => by
  obtain ⟨caps, bs, rfl, hk1, hu⟩ := eachS_inv hk
  clear hk
  have hk2 : ∃ x y z a b c, bs = [[I x, I y, I z], [I a, I b, I c]] ∧ K (.agg (eV ⟨addF x a, addF y b, addF z c⟩)) (h ++ [.box (eV ⟨addF x a, addF y b, addF z c⟩)]) := by
    unfold each2 at hk1
    split at hk1
    · exact ⟨_, _, _, _, _, _, rfl, hk1⟩
    · exact hk1.elim
  clear hk1
  obtain ⟨x, y, z, a', b', c', rfl, hk⟩ := hk2
  obtain ⟨a, b, rfl, ha, hb, _⟩ := unbox2 (k := fun _ => True) (by
    obtain ⟨bs, h1, h2, _⟩ := unboxK_ok hu
    have := h2 [] (fun bs' => bs' = [[I x, I y, I z], [I a', I b', I c']] ∧ True) ⟨h1, trivial⟩
    rwa [List.append_nil] at this)
  clear hu
  repeat' (conv => whnf
           first
            | refine getK_iff.2 ⟨_, get_app ha, ?_⟩
            | refine getK_iff.2 ⟨_, get_app hb, ?_⟩
            | refine getK_iff.2 ⟨_, get_snoc, ?_⟩
            | refine setK_iff.2 ⟨by simp, ?_⟩
            | refine snocK_iff.2 ?_)
  conv => whnf
  rw [set_snoc]
  refine getK_iff.2 ⟨_, get_snoc, ?_⟩
  conv => whnf
  exact hk
noncomputable def e90a : Ent := entC 2 s90a (eachS_a (each2_fun _))
def F110 (bs : List (List LV)) (k : V → Prop) : Prop :=
  match bs with
  | [[.v (.int .i64 m), .v (.int .i64 x), .v (.int .i64 y), .v (.int .i64 z)], [.v (.int .i64 a), .v (.int .i64 b), .v (.int .i64 c)]] => k ⟨shF x a m, shF y b m, shF z c m⟩
  | _ => False
theorem F110_fun (bs : List (List LV)) : Fun1 (F110 bs) := by
  intro k hk
  unfold F110 at hk
  split at hk
  · exact (Fun1.pure _) k hk
  · exact hk.elim
theorem s90s : CallOK PR GL 110 (eachS 130 F110) := mkC [e110] 0 Tryz.func110 (by kernel_rfl) (by kernel_rfl) fun args h K hk => by
  obtain ⟨caps, bs, rfl, hk1, hu⟩ := eachS_inv hk
  clear hk
  have hk2 : ∃ m x y z a b c, bs = [[I m, I x, I y, I z], [I a, I b, I c]] ∧ K (.agg (eV ⟨shF x a m, shF y b m, shF z c m⟩)) (h ++ [.box (eV ⟨shF x a m, shF y b m, shF z c m⟩)]) := by
    unfold F110 at hk1
    split at hk1
    · exact ⟨_, _, _, _, _, _, _, rfl, hk1⟩
    · exact hk1.elim
  clear hk1
  obtain ⟨m, x, y, z, a', b', c', rfl, hk⟩ := hk2
  obtain ⟨a, b, rfl, ha, hb, _⟩ := unbox2 (k := fun _ => True) (by
    obtain ⟨bs, h1, h2, _⟩ := unboxK_ok hu
    have := h2 [] (fun bs' => bs' = [[I m, I x, I y, I z], [I a', I b', I c']] ∧ True) ⟨h1, trivial⟩
    rwa [List.append_nil] at this)
  clear hu
  repeat' (conv => whnf
           first
            | refine getK_iff.2 ⟨_, get_app ha, ?_⟩
            | refine getK_iff.2 ⟨_, get_app hb, ?_⟩
            | refine getK_iff.2 ⟨_, get_snoc, ?_⟩
            | refine setK_iff.2 ⟨by simp, ?_⟩
            | refine snocK_iff.2 ?_)
  conv => whnf
  rw [set_snoc]
  refine getK_iff.2 ⟨_, get_snoc, ?_⟩
  conv => whnf
  exact hk
noncomputable def e90s : Ent := entC 2 s90s (eachS_a F110_fun)

def addV (a b : V) : V := ⟨addF a.x b.x, addF a.y b.y, addF a.z b.z⟩
def S73 : PSpec := p2 encV encV fun a b => LV.agg (eV (addV a b))
theorem s73 : SoundA PR GL 94 S73 := mkA [e90a] 0 Tryz.func94 (by kernel_rfl) (by kernel_rfl) fun args K hk => by
  have hk1 := p2_inv hk
  clear hk
  obtain ⟨a, b, rfl, hk⟩ := hk1
  conv => whnf
  repeat' ((first
            | refine pickB_yes (by assumption) ?_
            | refine pickB_no (by assumption) ?_
            | refine pickB_of (fun _ => ?_) (fun _ => ?_)
            | refine And.intro (Nat.le_refl _) ?_) <;> (conv => whnf))
  all_goals (repeat (first | replace hk := pickB_gt hk (by assumption) | replace hk := pickB_gf hk (by assumption)))
  all_goals first | exact hk | (simp only [C, runT, pickB_t, pickB_f, *, cond_true, cond_false] at hk; exact hk)
noncomputable def e73 : Ent := entA s73 (pspec_fun _)

theorem is4_ne {m : Int} (h : is4 m = true) : m ≠ 0 := by
  intro h0
  subst h0
  cases h
def pt0 : Pt := ⟨0, vec0⟩
def modV (v : V) (m : Int) : V := ⟨modF v.x m, modF v.y m, modF v.z m⟩
def S95 : PSpec := p2 encI encV fun m v => C (is4 m) (Er (.agg (ePt ⟨m, modV v m⟩)) 0) (Er (.agg (ePt pt0)) 1)
theorem s95 : SoundA PR GL 115 S95 := mkA [e52, e90p] 0 Tryz.func115 (by kernel_rfl) (by kernel_rfl) fun args K hk => by
  have hk1 := p2_inv hk
  clear hk
  obtain ⟨m, v, rfl, hk⟩ := hk1
  conv => whnf
  refine pickB_of (fun h => ?_) (fun h => ?_)
  · have hm := is4_ne h
    simp only [C, runT, h, pickB_t] at hk
    conv => whnf
    refine nzB_iff.2 ⟨hm, ?_⟩
    conv => whnf
    exact hk
  · simp only [C, runT, h, pickB_f] at hk
    conv => whnf
    exact hk
noncomputable def e95 : Ent := entA s95 (pspec_fun _)

def shV (p : Pt) (t : V) : V := ⟨shF p.x.x t.x p.m, shF p.x.y t.y p.m, shF p.x.z t.z p.m⟩
def S96 : PSpec := p2 encP encV fun p t => C (formP p) (C (is4 p.m) (Er (.agg (ePt ⟨p.m, modV (shV p t) p.m⟩)) 0) (Er (.agg (ePt pt0)) 1)) (Er (.agg (ePt pt0)) 3)
theorem s96 : SoundA PR GL 116 S96 := mkA [e33, e90s, e95] 0 Tryz.func116 (by kernel_rfl) (by kernel_rfl) fun args K hk => by
  have hk1 := p2_inv hk
  clear hk
  obtain ⟨p, t, rfl, hk⟩ := hk1
  conv => whnf
  repeat' ((first
            | refine pickB_yes (by assumption) ?_
            | refine pickB_no (by assumption) ?_
            | refine pickB_of (fun _ => ?_) (fun _ => ?_)
            | refine And.intro (Nat.le_refl _) ?_) <;> (conv => whnf))
  all_goals (repeat (first | replace hk := pickB_gt hk (by assumption) | replace hk := pickB_gf hk (by assumption)))
  all_goals first | exact hk | (simp only [C, runT, pickB_t, pickB_f, *, cond_true, cond_false] at hk; exact hk)
noncomputable def e96 : Ent := entA s96 (pspec_fun _)

abbrev ordF (x m : Int) : Int := w (x * w ((192 : Int).tdiv m))
def ordP (p q : Pt) : Int := cmp2 (ordF p.x.x p.m) (ordF q.x.x q.m) (cmp2 (ordF p.x.y p.m) (ordF q.x.y q.m) (cmp2 (ordF p.x.z p.m) (ordF q.x.z q.m) 0))
theorem formP_ne {p : Pt} (h : formP p = true) : p.m ≠ 0 := by
  refine is4_ne ?_
  unfold formP at h
  cases h4 : is4 p.m with
  | true => rfl
  | false => rw [h4] at h; cases h
def S78 : PSpec := p2 encP encP fun p q => C (formP p) (C (formP q) (Er (I (ordP p q)) 0) (Er (I 0) 3)) (Er (I 0) 3)
theorem s78 : SoundA PR GL 101 S78 := mkA [e33, e48] 4 Tryz.func101 (by kernel_rfl) (by kernel_rfl) fun args K hk => by
  have hk1 := p2_inv hk
  clear hk
  obtain ⟨p, q, rfl, hk⟩ := hk1
  conv => whnf
  repeat' ((first
            | refine nzB_iff.2 ⟨formP_ne (by assumption), ?_⟩
            | refine pickB_yes (by assumption) ?_
            | refine pickB_no (by assumption) ?_
            | refine pickB_of (fun _ => ?_) (fun _ => ?_)
            | refine And.intro (Nat.le_refl _) ?_) <;> (conv => whnf))
  all_goals (repeat (first | replace hk := pickB_gt hk (by assumption) | replace hk := pickB_gf hk (by assumption)))
  all_goals first | exact hk | (simp only [ordP, cmp2, ordF, w, C, runT, pickB_t, pickB_f, *, cond_true, cond_false] at hk; exact hk)
noncomputable def e78 : Ent := entA s78 (pspec_fun _)
end E
end Go.Proofs.YtjhognibibmeiaaGreatDoor
