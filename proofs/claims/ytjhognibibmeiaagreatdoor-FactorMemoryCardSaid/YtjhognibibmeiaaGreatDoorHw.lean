/-
  THE FUNCTIONS, twenty-third part: turns and sums of the rounded wave; the ring of a whole number.
-/
import Derived.Test.YtjhognibibmeiaaGreatDoorHv
set_option linter.unusedVariables false
set_option maxRecDepth 100000
set_option maxHeartbeats 8000000
namespace Go.Proofs.YtjhognibibmeiaaGreatDoor
namespace E
open Go Go.RowKit

abbrev Fl (b : Nat) : LV := .v (.float .f64 b)
abbrev Cx (a b : Nat) : LV := .v (.complex .f64 a b)
def S85 : PSpec := fun as0 K =>
  match as0 with
  | [.v (.int .u64 n)] => K (Fl n.toNat)
  | _ => False
theorem S85_fun : PFun S85 := by
  intro as0 k hk
  unfold S85 at hk
  split at hk
  · exact ⟨_, hk, fun k' h' => h'⟩
  · exact hk.elim
theorem s85 : SoundA PR GL 96 S85 := by
  intro args K hk R vals w hR hg hr
  unfold S85 at hk
  split at hk
  · rename_i n
    obtain ⟨v, rfl, hv⟩ : ∃ v, vals = [v] ∧ RRel R w (.v (.int .u64 n)) v := by
      match vals, hr with
      | [v], hr => exact ⟨v, rfl, hr.2 0 _ _ rfl rfl⟩
      | [], hr => have := hr.1; simp at this
      | _ :: _ :: _, hr => have := hr.1; simp at this
    cases hv
    refine .inr ⟨.float .f64 n.toNat, w, ?_, _, hk, .v _, Below.refl _ _, Nat.le_refl _⟩
    rw [run_callFunc_extern (e := Extern.MathFloatBits.float64frombits) Tryz.func96 (by kernel_rfl) rfl (by kernel_rfl) (by kernel_rfl)]
    rfl
  · exact hk.elim
noncomputable def e85 : Ent := entA s85 S85_fun

/-! ### Turns: the document's cosines by their bits -/
def S86 : Spec := fun args h K => bodyK PR (XC []) 0 Tryz.f97 args h K
theorem s86 : CallOK PR GL 97 S86 := mkC [] 0 Tryz.func97 (by kernel_rfl) (by kernel_rfl) fun args h K hk => hk
noncomputable def e86 : Ent := entC 4 s86 (cspec4 _)
def S67a : PSpec := fun as0 K =>
  match as0 with
  | [.v (.int .i64 96)] => K (Fl 13830554455654793216)
  | [.v (.int .i64 240)] => K (Fl 0)
  | _ => False
theorem S67a_fun : PFun S67a := by
  intro as0 k hk
  unfold S67a at hk
  split at hk
  · exact ⟨_, hk, fun k' h' => h'⟩
  · exact ⟨_, hk, fun k' h' => h'⟩
  · exact hk.elim
theorem s67a : SoundA PR GL 73 S67a := mkA [e86, e85] 0 Tryz.func73 (by kernel_rfl) (by kernel_rfl) fun args K hk => by
  unfold S67a at hk
  split at hk
  · conv => whnf
    exact hk
  · conv => whnf
    exact hk
  · exact hk.elim
noncomputable def e67a : Ent := entA s67a S67a_fun
def S40a : PSpec := espec (fun _ : Unit => [I 12, I 24]) (fun _ => True) (fun _ => Er (Cx 13830554455654793216 0) 0)
theorem s40a : SoundA PR GL 49 S40a := mkA [e67a] 0 Tryz.func49 (by kernel_rfl) (by kernel_rfl) fun args K hk => by
  obtain ⟨_, rfl, _, hk⟩ := hk
  conv => whnf
  exact hk
noncomputable def e40a : Ent := entA s40a espec_fun

/-! ### The wide numbers -/
def encW : Enc (Int × Int) := ⟨fun x => .agg [I x.1, I x.2], fun | .agg [.v (.int .i64 a), .v (.int .i64 b)] => some (a, b) | _ => none, fun {a x} h => by
  split at h
  · injection h with h; subst h; rfl
  · cases h⟩
def nrmH (h l : Int) : Int := w (h + l.fdiv (2 ^ (min (52 : Int).toNat IntKind.i64.bits)))
def nrmL (l : Int) : Int := w ((BitVec.ofInt IntKind.i64.bits l &&& BitVec.ofInt IntKind.i64.bits 4503599627370495).toNat : Int)
def nrmE (h l : Int) : List LV := [I (nrmH h l), I (nrmL l)]
def S46 : PSpec := p1 encW fun x => LV.agg (nrmE x.1 x.2)
theorem s46 : SoundA PR GL 67 S46 := mkA [] 0 Tryz.func67 (by kernel_rfl) (by kernel_rfl) fun args K hk => by
  have hk1 := p1_inv hk
  clear hk
  obtain ⟨⟨a, b⟩, rfl, hk⟩ := hk1
  conv => whnf
  exact hk
noncomputable def e46 : Ent := entA s46 (pspec_fun _)
def S44 : PSpec := p3 encW encI encW fun a n b => LV.agg (nrmE (w (a.1 + w (n * b.1))) (w (a.2 + w (n * b.2))))
theorem s44 : SoundA PR GL 65 S44 := mkA [e46] 0 Tryz.func65 (by kernel_rfl) (by kernel_rfl) fun args K hk => by
  have hk1 := p3_inv hk
  clear hk
  obtain ⟨⟨a, b⟩, n, ⟨c, d⟩, rfl, hk⟩ := hk1
  conv => whnf
  exact hk
noncomputable def e44 : Ent := entA s44 (pspec_fun _)
def S27 : PSpec := p1 encI fun n => LV.agg (nrmE 0 n)
theorem s27 : SoundA PR GL 43 S27 := mkA [e46] 0 Tryz.func43 (by kernel_rfl) (by kernel_rfl) fun args K hk => by
  have hk1 := p1_inv hk
  clear hk
  obtain ⟨n, rfl, hk⟩ := hk1
  conv => whnf
  exact hk
noncomputable def e27 : Ent := entA s27 (pspec_fun _)
def S25 : PSpec := p1 encI fun m => Bo (is4 m)
theorem s25 : SoundA PR GL 41 S25 := mkA [] 0 Tryz.func41 (by kernel_rfl) (by kernel_rfl) fun args K hk => by
  have hk1 := p1_inv hk
  clear hk
  obtain ⟨m, rfl, hk⟩ := hk1
  conv => whnf
  repeat' ((first
            | refine pickB_yes (by assumption) ?_
            | refine pickB_no (by assumption) ?_
            | refine pickB_of (fun _ => ?_) (fun _ => ?_)
            | refine And.intro (Nat.le_refl _) ?_) <;> (conv => whnf))
  all_goals (repeat (first | replace hk := pickB_gt hk (by assumption) | replace hk := pickB_gf hk (by assumption)))
  all_goals first | exact hk | (simp only [is4, C, runT, pickB_t, pickB_f, *, cond_true, cond_false] at hk; exact hk)
noncomputable def e25 : Ent := entA s25 (pspec_fun _)
def S45 : Spec := fun args h K => bodyK PR (XC []) 0 Tryz.f66 args h K
theorem s45 : CallOK PR GL 66 S45 := mkC [] 0 Tryz.func66 (by kernel_rfl) (by kernel_rfl) fun args h K hk => hk
noncomputable def e45 : Ent := entC 4 s45 (cspec4 _)
def S26 : Spec := fun args h K => bodyK PR (XC [e44, e45]) 40 Tryz.f42 args h K
theorem s26 : CallOK PR GL 42 S26 := mkC [e44, e45] 40 Tryz.func42 (by kernel_rfl) (by kernel_rfl) fun args h K hk => hk
noncomputable def e26 : Ent := entC 4 s26 (cspec4 _)
def ring6 : List Int := [-6, 0, 0, 0, 0, 0, 0, 0]
def S11a : PSpec := espec (fun _ : Unit => [I (-6), I 24]) (fun _ => True) (fun _ => Er (.agg [I 24, .rd (eNs ring6)]) 0)
theorem s11a : SoundA PR GL 22 S11a := mkA [e25, e26, e27] 0 Tryz.func22 (by kernel_rfl) (by kernel_rfl) fun args K hk => by
  obtain ⟨_, rfl, _, hk⟩ := hk
  conv => whnf
  refine ⟨by decide, by decide, ?_⟩
  conv => whnf
  repeat' ((first
    | refine And.intro (Nat.le_refl _) ?_
    | refine ⟨by decide, by decide, ?_⟩
    | fail) <;> (conv => whnf))
  exact hk
noncomputable def e11a : Ent := entA s11a espec_fun
end E
end Go.Proofs.YtjhognibibmeiaaGreatDoor
