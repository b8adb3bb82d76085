/-
  THE FUNCTIONS, first part: what values stand for; package vec.
-/
import Derived.Test.YtjhognibibmeiaaGreatDoorEt
set_option linter.unusedVariables false
set_option maxRecDepth 100000
set_option maxHeartbeats 4000000
namespace Go.Proofs.YtjhognibibmeiaaGreatDoor
namespace E
open Go Go.RowKit

structure V where
  (x y z : Int)
structure M where
  (a b c : V)
structure O where
  r : M
  t : V
structure Pt where
  m : Int
  x : V
structure Atm where
  p : Pt
  w : Int
  o : Int

structure Enc (α : Type) where
  enc : α → LV
  dec : LV → Option α
  inv : ∀ {a x}, dec a = some x → a = enc x

def eV (v : V) : List LV := [I v.x, I v.y, I v.z]
def eM (m : M) : List LV := [I m.a.x, I m.a.y, I m.a.z, I m.b.x, I m.b.y, I m.b.z, I m.c.x, I m.c.y, I m.c.z]
def eO (o : O) : List LV := [I o.r.a.x, I o.r.a.y, I o.r.a.z, I o.r.b.x, I o.r.b.y, I o.r.b.z, I o.r.c.x, I o.r.c.y, I o.r.c.z, I o.t.x, I o.t.y, I o.t.z]
def ePt (p : Pt) : List LV := [I p.m, I p.x.x, I p.x.y, I p.x.z]
def eAt (a : Atm) : List LV := [I a.p.m, I a.p.x.x, I a.p.x.y, I a.p.x.z, I a.w, I a.o]

def encI : Enc Int := ⟨I, fun | .v (.int .i64 a) => some a | _ => none, fun {a x} h => by
  split at h
  · injection h with h; subst h; rfl
  · cases h⟩
def encB : Enc Bool := ⟨Bo, fun | .v (.bool a) => some a | _ => none, fun {a x} h => by
  split at h
  · injection h with h; subst h; rfl
  · cases h⟩
def encV : Enc V := ⟨fun v => .agg (eV v), fun | .agg [.v (.int .i64 a), .v (.int .i64 b), .v (.int .i64 c)] => some ⟨a, b, c⟩ | _ => none, fun {a x} h => by
  split at h
  · injection h with h; subst h; rfl
  · cases h⟩
def encM : Enc M := ⟨fun v => .agg (eM v), fun
  | .agg [.v (.int .i64 a), .v (.int .i64 b), .v (.int .i64 c), .v (.int .i64 d), .v (.int .i64 e), .v (.int .i64 f), .v (.int .i64 g), .v (.int .i64 h), .v (.int .i64 i)] => some ⟨⟨a, b, c⟩, ⟨d, e, f⟩, ⟨g, h, i⟩⟩
  | _ => none, fun {a x} h => by
  split at h
  · injection h with h; subst h; rfl
  · cases h⟩
def encO : Enc O := ⟨fun v => .agg (eO v), fun
  | .agg [.v (.int .i64 a), .v (.int .i64 b), .v (.int .i64 c), .v (.int .i64 d), .v (.int .i64 e), .v (.int .i64 f), .v (.int .i64 g), .v (.int .i64 h), .v (.int .i64 i), .v (.int .i64 j), .v (.int .i64 k), .v (.int .i64 l)] => some ⟨⟨⟨a, b, c⟩, ⟨d, e, f⟩, ⟨g, h, i⟩⟩, ⟨j, k, l⟩⟩
  | _ => none, fun {a x} h => by
  split at h
  · injection h with h; subst h; rfl
  · cases h⟩
def encP : Enc Pt := ⟨fun v => .agg (ePt v), fun | .agg [.v (.int .i64 m), .v (.int .i64 a), .v (.int .i64 b), .v (.int .i64 c)] => some ⟨m, ⟨a, b, c⟩⟩ | _ => none, fun {a x} h => by
  split at h
  · injection h with h; subst h; rfl
  · cases h⟩
def encA : Enc Atm := ⟨fun v => .agg (eAt v), fun | .agg [.v (.int .i64 m), .v (.int .i64 a), .v (.int .i64 b), .v (.int .i64 c), .v (.int .i64 w), .v (.int .i64 o)] => some ⟨⟨m, ⟨a, b, c⟩⟩, w, o⟩ | _ => none, fun {a x} h => by
  split at h
  · injection h with h; subst h; rfl
  · cases h⟩

/-- Contracts of one, two, three arguments. -/
def p0 (r : T) : PSpec := pspec fun | [] => some r | _ => none
def p1 {α : Type} (e : Enc α) (f : α → T) : PSpec := pspec fun | [a] => (e.dec a).bind fun x => some (f x) | _ => none
def p2 {α β : Type} (e : Enc α) (e' : Enc β) (f : α → β → T) : PSpec := pspec fun | [a, b] => (e.dec a).bind fun x => (e'.dec b).bind fun y => some (f x y) | _ => none
def p3 {α β γ : Type} (e : Enc α) (e' : Enc β) (e'' : Enc γ) (f : α → β → γ → T) : PSpec := pspec fun | [a, b, c] => (e.dec a).bind fun x => (e'.dec b).bind fun y => (e''.dec c).bind fun z => some (f x y z) | _ => none

theorem p0_inv {r : T} {l : List LV} {K : LV → Prop} (h : p0 r l K) : l = [] ∧ runT r K := by
  unfold p0 pspec at h
  split at h
  · rename_i r hr
    dsimp only at hr
    split at hr
    · injection hr with hr; subst hr; exact ⟨rfl, h⟩
    · cases hr
  · exact h.elim
theorem p1_inv {α : Type} {e : Enc α} {f : α → T} {l : List LV} {K : LV → Prop} (h : p1 e f l K) : ∃ x, l = [e.enc x] ∧ runT (f x) K := by
  unfold p1 pspec at h
  split at h
  · rename_i r hr
    dsimp only at hr
    split at hr
    · simp only [Option.bind_eq_some_iff, Option.some.injEq] at hr
      obtain ⟨x, h1, rfl⟩ := hr
      exact ⟨x, by rw [e.inv h1], h⟩
    · cases hr
  · exact h.elim
theorem p2_inv {α β : Type} {e : Enc α} {e' : Enc β} {f : α → β → T} {l : List LV} {K : LV → Prop} (h : p2 e e' f l K) : ∃ x y, l = [e.enc x, e'.enc y] ∧ runT (f x y) K := by
  unfold p2 pspec at h
  split at h
  · rename_i r hr
    dsimp only at hr
    split at hr
    · simp only [Option.bind_eq_some_iff, Option.some.injEq] at hr
      obtain ⟨x, h1, y, h2, rfl⟩ := hr
      exact ⟨x, y, by rw [e.inv h1, e'.inv h2], h⟩
    · cases hr
  · exact h.elim
theorem p3_inv {α β γ : Type} {e : Enc α} {e' : Enc β} {e'' : Enc γ} {f : α → β → γ → T} {l : List LV} {K : LV → Prop} (h : p3 e e' e'' f l K) : ∃ x y z, l = [e.enc x, e'.enc y, e''.enc z] ∧ runT (f x y z) K := by
  unfold p3 pspec at h
  split at h
  · rename_i r hr
    dsimp only at hr
    split at hr
    · simp only [Option.bind_eq_some_iff, Option.some.injEq] at hr
      obtain ⟨x, h1, y, h2, z, h3, rfl⟩ := hr
      exact ⟨x, y, z, by rw [e.inv h1, e'.inv h2, e''.inv h3], h⟩
    · cases hr
  · exact h.elim

abbrev Er (a : LV) (e : Int) : LV := .tup [a, I e]

def C (b : Bool) (x y : T) : T := T.c b x y
/-! ### vec -/
def beyond (x m : Int) : Bool := bif decide (x < w (0 - m)) then true else decide (x > m)
def S88 : PSpec := p2 encI encI fun a b => Bo (beyond a b)
theorem s88 : SoundA PR GL 108 S88 := mkA [] 0 Tryz.func108 (by kernel_rfl) (by kernel_rfl) fun args K hk => by
  have hk1 := p2_inv hk
  clear hk
  obtain ⟨a, b, rfl, hk⟩ := hk1
  conv => whnf
  repeat' ((first
            | refine pickB_yes (by assumption) ?_
            | refine pickB_no (by assumption) ?_
            | refine pickB_of (fun _ => ?_) (fun _ => ?_)
            | refine And.intro (Nat.le_refl _) ?_) <;> (conv => whnf))
  all_goals (repeat (first | replace hk := pickB_gt hk (by assumption) | replace hk := pickB_gf hk (by assumption)))
  all_goals first | exact hk | (simp only [beyond, C, runT, pickB_t, pickB_f, *, cond_true, cond_false] at hk; exact hk)
noncomputable def e88 : Ent := entA s88 (pspec_fun _)
def mat0 : M := ⟨⟨0, 0, 0⟩, ⟨0, 0, 0⟩, ⟨0, 0, 0⟩⟩
def one3 : M := ⟨⟨1, 0, 0⟩, ⟨0, 1, 0⟩, ⟨0, 0, 1⟩⟩
def S43 : PSpec := p0 (LV.agg (eM one3))
theorem s43 : SoundA PR GL 64 S43 := mkA [] 0 Tryz.func64 (by kernel_rfl) (by kernel_rfl) fun args K hk => by
  have hk1 := p0_inv hk
  clear hk
  obtain ⟨rfl, hk⟩ := hk1
  conv => whnf
  repeat' ((first
            | refine pickB_yes (by assumption) ?_
            | refine pickB_no (by assumption) ?_
            | refine pickB_of (fun _ => ?_) (fun _ => ?_)
            | refine And.intro (Nat.le_refl _) ?_) <;> (conv => whnf))
  all_goals (repeat (first | replace hk := pickB_gt hk (by assumption) | replace hk := pickB_gf hk (by assumption)))
  all_goals first | exact hk | (simp only [C, runT, pickB_t, pickB_f, *, cond_true, cond_false] at hk; exact hk)
noncomputable def e43 : Ent := entA s43 (pspec_fun _)
def bey3 (v : V) (m : Int) : Bool := bif beyond v.x m then true else bif beyond v.y m then true else beyond v.z m
def bey9 (m : M) : Bool := bif bey3 m.a 1000 then true else bif bey3 m.b 1000 then true else bey3 m.c 1000
def S71 : PSpec := p1 encM fun m => C (bey9 m) (I 4) (I 0)
theorem s71 : SoundA PR GL 92 S71 := mkA [e88] 4 Tryz.func92 (by kernel_rfl) (by kernel_rfl) fun args K hk => by
  have hk1 := p1_inv hk
  clear hk
  obtain ⟨m, rfl, hk⟩ := hk1
  conv => whnf
  repeat' ((first
            | refine pickB_yes (by assumption) ?_
            | refine pickB_no (by assumption) ?_
            | refine pickB_of (fun _ => ?_) (fun _ => ?_)
            | refine And.intro (Nat.le_refl _) ?_) <;> (conv => whnf))
  all_goals (repeat (first | replace hk := pickB_gt hk (by assumption) | replace hk := pickB_gf hk (by assumption)))
  all_goals first | exact hk | (simp only [bey9, bey3, C, runT, pickB_t, pickB_f, *, cond_true, cond_false] at hk; exact hk)
noncomputable def e71 : Ent := entA s71 (pspec_fun _)
end E
end Go.Proofs.YtjhognibibmeiaaGreatDoor
