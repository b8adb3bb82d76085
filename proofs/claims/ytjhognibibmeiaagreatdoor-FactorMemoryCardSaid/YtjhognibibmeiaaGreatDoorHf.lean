/-
  THE FUNCTIONS, sixth part: the reference's small ones.
-/
import Derived.Test.YtjhognibibmeiaaGreatDoorHe
set_option linter.unusedVariables false
set_option maxRecDepth 100000
set_option maxHeartbeats 4000000
namespace Go.Proofs.YtjhognibibmeiaaGreatDoor
namespace E
open Go Go.RowKit

def S39 : PSpec := p2nz fun n m => I (modF n m)
theorem s39 : SoundA PR GL 63 S39 := mkA [] 0 Tryz.func63 (by kernel_rfl) (by kernel_rfl) fun args K hk => by
  have hk1 := p2nz_inv hk
  clear hk
  obtain ⟨n, m, rfl, hm, hk⟩ := hk1
  conv => whnf
  refine nzB_iff.2 ⟨hm, ?_⟩
  conv => whnf
  refine nzB_iff.2 ⟨hm, ?_⟩
  conv => whnf
  exact hk
noncomputable def e39 : Ent := entA s39 (p2nz_fun _)
def mod2 (n m : Int) : Int := bif decide (n.tmod m < 0) then w (n.tmod m + m) else n.tmod m
def S83 : PSpec := p2nz fun n m => I (mod2 n m)
theorem s83 : SoundA PR GL 106 S83 := mkA [] 0 Tryz.func106 (by kernel_rfl) (by kernel_rfl) fun args K hk => by
  have hk1 := p2nz_inv hk
  clear hk
  obtain ⟨n, m, rfl, hm, hk⟩ := hk1
  conv => whnf
  refine nzB_iff.2 ⟨hm, ?_⟩
  conv => whnf
  refine pickB_of (fun h => ?_) (fun h => ?_)
  · conv => whnf
    simp only [mod2, h, cond_true] at hk
    exact hk
  · conv => whnf
    simp only [mod2, h, cond_false] at hk
    exact hk
noncomputable def e83 : Ent := entA s83 (p2nz_fun _)

/-- A column and a whole number that is not 0. -/
def pVnz (f : V → Int → LV) : PSpec := fun as0 K =>
  match as0 with
  | [a, .v (.int .i64 m)] =>
    (match encV.dec a with
     | some v => nzB m (K (f v m))
     | none => False)
  | _ => False
theorem pVnz_fun (f : V → Int → LV) : PFun (pVnz f) := by
  intro as0 k hk
  unfold pVnz at hk
  split at hk
  · split at hk
    · rename_i h
      obtain ⟨h1, h2⟩ := nzB_iff.1 hk
      exact ⟨_, h2, fun k' h' => by unfold pVnz; simp only [h]; exact nzB_iff.2 ⟨h1, h'⟩⟩
    · exact hk.elim
  · exact hk.elim
theorem pVnz_inv {f : V → Int → LV} {l : List LV} {K : LV → Prop} (h : pVnz f l K) : ∃ v m, l = [encV.enc v, I m] ∧ m ≠ 0 ∧ K (f v m) := by
  unfold pVnz at h
  split at h
  · split at h
    · rename_i hv
      obtain ⟨h1, h2⟩ := nzB_iff.1 h
      exact ⟨_, _, by rw [encV.inv hv], h1, h2⟩
    · exact h.elim
  · exact h.elim
def bring2 (v : V) (m : Int) : V := ⟨mod2 v.x m, mod2 v.y m, mod2 v.z m⟩
def S81 : PSpec := pVnz fun v m => LV.agg (eV (bring2 v m))
theorem s81 : SoundA PR GL 104 S81 := mkA [e83] 0 Tryz.func104 (by kernel_rfl) (by kernel_rfl) fun args K hk => by
  have hk1 := pVnz_inv hk
  clear hk
  obtain ⟨v, m, rfl, hm, hk⟩ := hk1
  conv => whnf
  repeat' ((refine nzB_iff.2 ⟨hm, ?_⟩) <;> (conv => whnf))
  exact hk
noncomputable def e81 : Ent := entA s81 (pVnz_fun _)
def S84 : PSpec := pVnz fun v m => LV.agg (eV (modV v m))
theorem s84 : SoundA PR GL 62 S84 := mkA [e39] 0 Tryz.func62 (by kernel_rfl) (by kernel_rfl) fun args K hk => by
  have hk1 := pVnz_inv hk
  clear hk
  obtain ⟨v, m, rfl, hm, hk⟩ := hk1
  conv => whnf
  repeat' ((refine nzB_iff.2 ⟨hm, ?_⟩) <;> (conv => whnf))
  exact hk
noncomputable def e84 : Ent := entA s84 (pVnz_fun _)

def S66 : PSpec := p2 encV encV fun a b => I (cmpV a b 0)
theorem s66 : SoundA PR GL 88 S66 := mkA [] 4 Tryz.func88 (by kernel_rfl) (by kernel_rfl) fun args K hk => by
  have hk1 := p2_inv hk
  clear hk
  obtain ⟨a, b, rfl, hk⟩ := hk1
  conv => whnf
  repeat' ((first
            | refine pickB_yes (by assumption) ?_
            | refine pickB_no (by assumption) ?_
            | refine pickB_of (fun _ => ?_) (fun _ => ?_)
            | refine And.intro (Nat.le_refl _) ?_) <;> (conv => whnf))
  all_goals (repeat (first | replace hk := pickB_gt hk (by assumption) | replace hk := pickB_gf hk (by assumption)))
  all_goals first | exact hk | (simp only [cmpV, cmp2, C, runT, pickB_t, pickB_f, *, cond_true, cond_false] at hk; exact hk)
noncomputable def e66 : Ent := entA s66 (pspec_fun _)
def is4n (m : Int) : Bool := bif m != 24 then (bif m != 48 then (bif m != 96 then (bif m != 192 then false else true) else true) else true) else true
theorem ne_of_bne {m k : Int} (h : (m != k) = false) (hk : k ≠ 0) : m ≠ 0 := by
  have : m = k := by simpa using h
  exact this ▸ hk
def eqV (a b : V) : Bool := (a.x == b.x && (a.y == b.y && (a.z == b.z && true)))
def S64 : PSpec := p1 encP fun p => C (is4n p.m) (Bo (eqV p.x (modV p.x p.m))) (Bo false)
theorem s64 : SoundA PR GL 36 S64 := mkA [e84] 0 Tryz.func36 (by kernel_rfl) (by kernel_rfl) fun args K hk => by
  have hk1 := p1_inv hk
  clear hk
  obtain ⟨p, rfl, hk⟩ := hk1
  conv => whnf
  repeat' ((first
            | refine nzB_iff.2 ⟨ne_of_bne (by assumption) (by decide), ?_⟩
            | refine pickB_yes (by assumption) ?_
            | refine pickB_no (by assumption) ?_
            | refine pickB_of (fun _ => ?_) (fun _ => ?_)
            | refine And.intro (Nat.le_refl _) ?_) <;> (conv => whnf))
  all_goals (repeat (first | replace hk := pickB_gt hk (by assumption) | replace hk := pickB_gf hk (by assumption)))
  all_goals first | exact hk | (simp only [is4n, eqV, C, runT, pickB_t, pickB_f, *, cond_true, cond_false] at hk; exact hk)
noncomputable def e64 : Ent := entA s64 (pspec_fun _)
def bad1 (x m : Int) : Bool := bif decide (x < -m) then true else decide (x > m)
def bad3 (v : V) (m : Int) : Bool := bif bad1 v.x m then true else bif bad1 v.y m then true else bad1 v.z m
def out9 (m : M) : Bool := bif bad3 m.a 1000 then true else bif bad3 m.b 1000 then true else bad3 m.c 1000
def S79 : PSpec := p1 encM fun m => C (out9 m) (Bo false) (Bo true)
theorem s79 : SoundA PR GL 102 S79 := mkA [] 4 Tryz.func102 (by kernel_rfl) (by kernel_rfl) fun args K hk => by
  have hk1 := p1_inv hk
  clear hk
  obtain ⟨m, rfl, hk⟩ := hk1
  conv => whnf
  repeat' ((first
            | refine pickB_yes (by assumption) ?_
            | refine pickB_no (by assumption) ?_
            | refine pickB_of (fun _ => ?_) (fun _ => ?_)
            | refine And.intro (Nat.le_refl _) ?_) <;> (conv => whnf))
  all_goals (repeat (first | replace hk := pickB_gt hk (by assumption) | replace hk := pickB_gf hk (by assumption)))
  all_goals first | exact hk | (simp only [out9, bad3, bad1, C, runT, pickB_t, pickB_f, *, cond_true, cond_false] at hk; exact hk)
noncomputable def e79 : Ent := entA s79 (pspec_fun _)
def term3 (x a b c d : Int) : Int := w (x * w (w (a * d) - w (b * c)))
def detR (m : M) : Int := w (w (w (0 + term3 m.a.x m.b.y m.b.z m.c.y m.c.z) + term3 m.a.y m.b.z m.b.x m.c.z m.c.x) + term3 m.a.z m.b.x m.b.y m.c.x m.c.y)
def S80 : PSpec := p1 encM fun m => I (detR m)
theorem s80 : SoundA PR GL 103 S80 := mkA [] 4 Tryz.func103 (by kernel_rfl) (by kernel_rfl) fun args K hk => by
  have hk1 := p1_inv hk
  clear hk
  obtain ⟨m, rfl, hk⟩ := hk1
  conv => whnf
  repeat' ((first
            | refine pickB_yes (by assumption) ?_
            | refine pickB_no (by assumption) ?_
            | refine pickB_of (fun _ => ?_) (fun _ => ?_)
            | refine And.intro (Nat.le_refl _) ?_) <;> (conv => whnf))
  all_goals (repeat (first | replace hk := pickB_gt hk (by assumption) | replace hk := pickB_gf hk (by assumption)))
  all_goals first | exact hk | (simp only [detR, term3, C, runT, pickB_t, pickB_f, *, cond_true, cond_false] at hk; exact hk)
noncomputable def e80 : Ent := entA s80 (pspec_fun _)
def S61 : PSpec := p0 (LV.agg (eO ⟨one3, vec0⟩))
theorem s61 : SoundA PR GL 83 S61 := mkA [] 0 Tryz.func83 (by kernel_rfl) (by kernel_rfl) fun args K hk => by
  have hk1 := p0_inv hk
  clear hk
  obtain ⟨rfl, hk⟩ := hk1
  conv => whnf
  repeat' ((first
            | refine pickB_yes (by assumption) ?_
            | refine pickB_no (by assumption) ?_
            | refine pickB_of (fun _ => ?_) (fun _ => ?_)
            | refine And.intro (Nat.le_refl _) ?_) <;> (conv => whnf))
  all_goals (repeat (first | replace hk := pickB_gt hk (by assumption) | replace hk := pickB_gf hk (by assumption)))
  all_goals first | exact hk | (simp only [C, runT, pickB_t, pickB_f, *, cond_true, cond_false] at hk; exact hk)
noncomputable def e61 : Ent := entA s61 (pspec_fun _)
def cmpMR (a b : M) : Int := bif cmpV a.a b.a 0 != 0 then cmpV a.a b.a 0 else bif cmpV a.b b.b 0 != 0 then cmpV a.b b.b 0 else bif cmpV a.c b.c 0 != 0 then cmpV a.c b.c 0 else 0
def S82 : PSpec := p2 encM encM fun a b => I (cmpMR a b)
theorem s82 : SoundA PR GL 105 S82 := mkA [e66] 4 Tryz.func105 (by kernel_rfl) (by kernel_rfl) fun args K hk => by
  have hk1 := p2_inv hk
  clear hk
  obtain ⟨a, b, rfl, hk⟩ := hk1
  conv => whnf
  repeat' ((first
            | refine pickB_yes (by assumption) ?_
            | refine pickB_no (by assumption) ?_
            | refine pickB_of (fun _ => ?_) (fun _ => ?_)
            | refine And.intro (Nat.le_refl _) ?_) <;> (conv => whnf))
  all_goals (repeat (first | replace hk := pickB_gt hk (by assumption) | replace hk := pickB_gf hk (by assumption)))
  all_goals first | exact hk | (simp only [cmpMR, C, runT, pickB_t, pickB_f, *, cond_true, cond_false] at hk; exact hk)
noncomputable def e82 : Ent := entA s82 (pspec_fun _)
def cmpOR (a b : O) : Int := bif cmpMR a.r b.r != 0 then cmpMR a.r b.r else cmpV a.t b.t 0
def S59 : PSpec := p2 encO encO fun a b => I (cmpOR a b)
theorem s59 : SoundA PR GL 81 S59 := mkA [e82, e66] 4 Tryz.func81 (by kernel_rfl) (by kernel_rfl) fun args K hk => by
  have hk1 := p2_inv hk
  clear hk
  obtain ⟨a, b, rfl, hk⟩ := hk1
  conv => whnf
  repeat' ((first
            | refine pickB_yes (by assumption) ?_
            | refine pickB_no (by assumption) ?_
            | refine pickB_of (fun _ => ?_) (fun _ => ?_)
            | refine And.intro (Nat.le_refl _) ?_) <;> (conv => whnf))
  all_goals (repeat (first | replace hk := pickB_gt hk (by assumption) | replace hk := pickB_gf hk (by assumption)))
  all_goals first | exact hk | (simp only [cmpOR, C, runT, pickB_t, pickB_f, *, cond_true, cond_false] at hk; exact hk)
noncomputable def e59 : Ent := entA s59 (pspec_fun _)
def dotR (s a b c a' b' c' : Int) : Int := w (w (w (s + w (a * a')) + w (b * b')) + w (c * c'))
def rowR (a : V) (b : M) : V := ⟨dotR 0 a.x a.y a.z b.a.x b.b.x b.c.x, dotR 0 a.x a.y a.z b.a.y b.b.y b.c.y, dotR 0 a.x a.y a.z b.a.z b.b.z b.c.z⟩
def mulRM (a b : M) : M := ⟨rowR a.a b, rowR a.b b, rowR a.c b⟩
def trR (t : Int) (a : V) (v : V) : Int := mod2 (dotR t a.x a.y a.z v.x v.y v.z) 24
def mulR (a b : O) : O := ⟨mulRM a.r b.r, ⟨trR a.t.x a.r.a b.t, trR a.t.y a.r.b b.t, trR a.t.z a.r.c b.t⟩⟩
def S62 : PSpec := p2 encO encO fun a b => LV.agg (eO (mulR a b))
theorem s62 : SoundA PR GL 84 S62 := mkA [e83] 4 Tryz.func84 (by kernel_rfl) (by kernel_rfl) fun args K hk => by
  have hk1 := p2_inv hk
  clear hk
  obtain ⟨a, b, rfl, hk⟩ := hk1
  conv => whnf
  repeat' ((first
            | refine pickB_yes (by assumption) ?_
            | refine pickB_no (by assumption) ?_
            | refine pickB_of (fun _ => ?_) (fun _ => ?_)
            | refine And.intro (Nat.le_refl _) ?_) <;> (conv => whnf))
  all_goals (repeat (first | replace hk := pickB_gt hk (by assumption) | replace hk := pickB_gf hk (by assumption)))
  all_goals first | exact hk | (simp only [C, runT, pickB_t, pickB_f, *, cond_true, cond_false] at hk; exact hk)
noncomputable def e62 : Ent := entA s62 (pspec_fun _)
def S37 : PSpec := p1 encV fun v => C (bad3 v 512) (I 1) (I 0)
theorem s37 : SoundA PR GL 35 S37 := mkA [] 4 Tryz.func35 (by kernel_rfl) (by kernel_rfl) fun args K hk => by
  have hk1 := p1_inv hk
  clear hk
  obtain ⟨v, rfl, hk⟩ := hk1
  conv => whnf
  repeat' ((first
            | refine pickB_yes (by assumption) ?_
            | refine pickB_no (by assumption) ?_
            | refine pickB_of (fun _ => ?_) (fun _ => ?_)
            | refine And.intro (Nat.le_refl _) ?_) <;> (conv => whnf))
  all_goals (repeat (first | replace hk := pickB_gt hk (by assumption) | replace hk := pickB_gf hk (by assumption)))
  all_goals first | exact hk | (simp only [bad3, bad1, C, runT, pickB_t, pickB_f, *, cond_true, cond_false] at hk; exact hk)
noncomputable def e37 : Ent := entA s37 (pspec_fun _)
def S63 : PSpec := p1 encI fun n => Bo (bad1 n 1000000)
theorem s63 : SoundA PR GL 85 S63 := mkA [] 0 Tryz.func85 (by kernel_rfl) (by kernel_rfl) fun args K hk => by
  have hk1 := p1_inv hk
  clear hk
  obtain ⟨n, rfl, hk⟩ := hk1
  conv => whnf
  repeat' ((first
            | refine pickB_yes (by assumption) ?_
            | refine pickB_no (by assumption) ?_
            | refine pickB_of (fun _ => ?_) (fun _ => ?_)
            | refine And.intro (Nat.le_refl _) ?_) <;> (conv => whnf))
  all_goals (repeat (first | replace hk := pickB_gt hk (by assumption) | replace hk := pickB_gf hk (by assumption)))
  all_goals first | exact hk | (simp only [bad1, C, runT, pickB_t, pickB_f, *, cond_true, cond_false] at hk; exact hk)
noncomputable def e63 : Ent := entA s63 (pspec_fun _)
end E
end Go.Proofs.YtjhognibibmeiaaGreatDoor
