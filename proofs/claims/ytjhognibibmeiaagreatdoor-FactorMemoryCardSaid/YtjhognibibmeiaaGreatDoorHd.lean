/-
  THE FUNCTIONS, fourth part: op.
-/
import Derived.Test.YtjhognibibmeiaaGreatDoorHc
set_option linter.unusedVariables false
set_option maxRecDepth 100000
set_option maxHeartbeats 4000000
namespace Go.Proofs.YtjhognibibmeiaaGreatDoor
namespace E
open Go Go.RowKit

def enc1O : Enc O := ⟨fun o => .rd [eO o], fun | .rd [cs] => encO.dec (.agg cs) | _ => none, fun {a x} h => by
  split at h
  · have := encO.inv h
    injection this with this
    rw [this]
  · cases h⟩
def enc2O : Enc (O × O) := ⟨fun o => .rd [eO o.1, eO o.2], fun | .rd [cs, ds] => (encO.dec (.agg cs)).bind fun a => (encO.dec (.agg ds)).bind fun b => some (a, b) | _ => none, fun {a x} h => by
  split at h
  · simp only [Option.bind_eq_some_iff, Option.some.injEq] at h
    obtain ⟨a, h1, b, h2, rfl⟩ := h
    have e1 := encO.inv h1
    have e2 := encO.inv h2
    injection e1 with e1
    injection e2 with e2
    rw [e1, e2]
  · cases h⟩

def S93 : PSpec := p1 encI fun n => I (modF n 24)
theorem s93 : SoundA PR GL 113 S93 := mkA [] 0 Tryz.func113 (by kernel_rfl) (by kernel_rfl) fun args K hk => by
  have hk1 := p1_inv hk
  clear hk
  obtain ⟨n, rfl, hk⟩ := hk1
  conv => whnf
  repeat' ((first
            | refine pickB_yes (by assumption) ?_
            | refine pickB_no (by assumption) ?_
            | refine pickB_of (fun _ => ?_) (fun _ => ?_)
            | refine And.intro (Nat.le_refl _) ?_) <;> (conv => whnf))
  all_goals (repeat (first | replace hk := pickB_gt hk (by assumption) | replace hk := pickB_gf hk (by assumption)))
  all_goals first | exact hk | (simp only [C, runT, pickB_t, pickB_f, *, cond_true, cond_false] at hk; exact hk)
noncomputable def e93 : Ent := entA s93 (pspec_fun _)
def okD (m : M) : Bool := bif detM m != 1 then (bif detM m != -1 then false else true) else true
def S70 : PSpec := p1 encM fun m => C (bey9 m) (I 4) (C (okD m) (I 0) (I 3))
theorem s70 : SoundA PR GL 91 S70 := mkA [e87] 0 Tryz.func91 (by kernel_rfl) (by kernel_rfl) fun args K hk => by
  have hk1 := p1_inv hk
  clear hk
  obtain ⟨m, rfl, hk⟩ := hk1
  conv => whnf
  repeat' ((first
            | refine pickB_yes (by assumption) ?_
            | refine pickB_no (by assumption) ?_
            | refine pickB_of (fun _ => ?_) (fun _ => ?_)
            | refine And.intro (Nat.le_refl _) ?_) <;> (conv => whnf))
  all_goals (repeat (first | replace hk := pickB_gt hk (by assumption) | replace hk := pickB_gf hk (by assumption)))
  all_goals first | exact hk | (simp only [okD, C, runT, pickB_t, pickB_f, *, cond_true, cond_false] at hk; exact hk)
noncomputable def e70 : Ent := entA s70 (pspec_fun _)
def outT (t : V) : Bool := bif decide (t.x < 0) then true else bif decide (t.x ≥ 24) then true else bif decide (t.y < 0) then true else bif decide (t.y ≥ 24) then true else bif decide (t.z < 0) then true else decide (t.z ≥ 24)
def chkT (o : O) (bad over good : T) : T := C (outT o.t) bad (C (bey9 o.r) over (C (okD o.r) good bad))
def S49 : PSpec := p1 enc1O fun o => chkT o (I 3) (I 4) (I 0)
theorem s49 : SoundA PR GL 70 S49 := mkA [e70] 5 Tryz.func70 (by kernel_rfl) (by kernel_rfl) fun args K hk => by
  have hk1 := p1_inv hk
  clear hk
  obtain ⟨o, rfl, hk⟩ := hk1
  conv => whnf
  repeat' ((first
            | refine pickB_yes (by assumption) ?_
            | refine pickB_no (by assumption) ?_
            | refine pickB_of (fun _ => ?_) (fun _ => ?_)
            | refine And.intro (Nat.le_refl _) ?_) <;> (conv => whnf))
  all_goals (repeat (first | replace hk := pickB_gt hk (by assumption) | replace hk := pickB_gf hk (by assumption)))
  all_goals first | exact hk | (simp only [chkT, outT, C, runT, pickB_t, pickB_f, *, cond_true, cond_false] at hk; exact hk)
noncomputable def e49 : Ent := entA s49 (pspec_fun _)
def S24 : PSpec := p0 (LV.agg (eO ⟨one3, vec0⟩))
theorem s24 : SoundA PR GL 40 S24 := mkA [e43] 0 Tryz.func40 (by kernel_rfl) (by kernel_rfl) fun args K hk => by
  have hk1 := p0_inv hk
  clear hk
  obtain ⟨rfl, hk⟩ := hk1
  conv => whnf
  repeat' ((first
            | refine pickB_yes (by assumption) ?_
            | refine pickB_no (by assumption) ?_
            | refine pickB_of (fun _ => ?_) (fun _ => ?_)
            | refine And.intro (Nat.le_refl _) ?_) <;> (conv => whnf))
  all_goals (repeat (first | replace hk := pickB_gt hk (by assumption) | replace hk := pickB_gf hk (by assumption)))
  all_goals first | exact hk | (simp only [C, runT, pickB_t, pickB_f, *, cond_true, cond_false] at hk; exact hk)
noncomputable def e24 : Ent := entA s24 (pspec_fun _)
def op0 : O := ⟨mat0, vec0⟩
def S50 : PSpec := p1 encO fun o => C (bey9 o.r) (Er (.agg (eO op0)) 4) (Er (.agg (eO o)) 0)
theorem s50 : SoundA PR GL 71 S50 := mkA [e71] 0 Tryz.func71 (by kernel_rfl) (by kernel_rfl) fun args K hk => by
  have hk1 := p1_inv hk
  clear hk
  obtain ⟨o, rfl, hk⟩ := hk1
  conv => whnf
  repeat' ((first
            | refine pickB_yes (by assumption) ?_
            | refine pickB_no (by assumption) ?_
            | refine pickB_of (fun _ => ?_) (fun _ => ?_)
            | refine And.intro (Nat.le_refl _) ?_) <;> (conv => whnf))
  all_goals (repeat (first | replace hk := pickB_gt hk (by assumption) | replace hk := pickB_gf hk (by assumption)))
  all_goals first | exact hk | (simp only [C, runT, pickB_t, pickB_f, *, cond_true, cond_false] at hk; exact hk)
noncomputable def e50 : Ent := entA s50 (pspec_fun _)
def stepS (s x t : Int) : Int := modF (w (s + w (modF x 24 * t))) 24
def shiftV (r : M) (t : V) : V := ⟨stepS (stepS (stepS 0 r.a.x t.x) r.a.y t.y) r.a.z t.z, stepS (stepS (stepS 0 r.b.x t.x) r.b.y t.y) r.b.z t.z, stepS (stepS (stepS 0 r.c.x t.x) r.c.y t.y) r.c.z t.z⟩
def S74 : PSpec := p2 encM encV fun r t => LV.agg (eV (shiftV r t))
theorem s74 : SoundA PR GL 95 S74 := mkA [e93] 4 Tryz.func95 (by kernel_rfl) (by kernel_rfl) fun args K hk => by
  have hk1 := p2_inv hk
  clear hk
  obtain ⟨r, t, rfl, hk⟩ := hk1
  conv => whnf
  repeat' ((first
            | refine pickB_yes (by assumption) ?_
            | refine pickB_no (by assumption) ?_
            | refine pickB_of (fun _ => ?_) (fun _ => ?_)
            | refine And.intro (Nat.le_refl _) ?_) <;> (conv => whnf))
  all_goals (repeat (first | replace hk := pickB_gt hk (by assumption) | replace hk := pickB_gf hk (by assumption)))
  all_goals first | exact hk | (simp only [C, runT, pickB_t, pickB_f, *, cond_true, cond_false] at hk; exact hk)
noncomputable def e74 : Ent := entA s74 (pspec_fun _)
def mulO (a b : O) : O := ⟨mulM a.r b.r, addV (shiftV a.r b.t) a.t⟩
def mul0 (a b : O) : O := ⟨mat0, addV (shiftV a.r b.t) a.t⟩
def S51 : PSpec := p2 encO encO fun a b => C (bey9 a.r) (LV.agg (eO (mul0 a b))) (C (bey9 b.r) (LV.agg (eO (mul0 a b))) (LV.agg (eO (mulO a b))))
theorem s51 : SoundA PR GL 72 S51 := mkA [e72, e74, e73] 0 Tryz.func72 (by kernel_rfl) (by kernel_rfl) fun args K hk => by
  have hk1 := p2_inv hk
  clear hk
  obtain ⟨a, b, rfl, hk⟩ := hk1
  conv => whnf
  repeat' ((first
            | refine pickB_yes (by assumption) ?_
            | refine pickB_no (by assumption) ?_
            | refine pickB_of (fun _ => ?_) (fun _ => ?_)
            | refine And.intro (Nat.le_refl _) ?_) <;> (conv => whnf))
  all_goals (repeat (first | replace hk := pickB_gt hk (by assumption) | replace hk := pickB_gf hk (by assumption)))
  all_goals first | exact hk | (simp only [C, runT, pickB_t, pickB_f, *, cond_true, cond_false] at hk; exact hk)
noncomputable def e51 : Ent := entA s51 (pspec_fun _)
end E
end Go.Proofs.YtjhognibibmeiaaGreatDoor
