/-
  THE FUNCTIONS, twenty-fourth part: the law's own example, and the law.
-/
import Derived.Test.YtjhognibibmeiaaHw
import Derived.Test.YtjhognibibmeiaaLd
set_option linter.unusedVariables false
set_option maxRecDepth 100000
set_option maxHeartbeats 8000000
namespace Go.Proofs.Ytjhognibibmeiaa
namespace E
open Go Go.RowKit

def h100 : V := ⟨1, 0, 0⟩
def x12 : V := ⟨12, 0, 0⟩
def atW : Atm := ⟨⟨24, x12⟩, 6, 2⟩
def atE : Atm := ⟨⟨24, x12⟩, 6, 0⟩
theorem one_ok : OkO oneO := ⟨by kernel_rfl, by kernel_rfl, by kernel_rfl⟩
theorem gone_ok : ∀ o ∈ [oneO], OkO o := fun o ho => by rw [List.mem_singleton.1 ho]; exact one_ok
theorem x12_ok : Rng 24 x12 := ⟨by decide, by decide, by decide, by decide, by decide, by decide⟩
theorem orb12 : orbV [oneO] 24 x12 = [x12] := by
  rw [orb_eq gone_ok .a x12_ok]
  kernel_rfl
theorem chk1 : chkG [oneO] = 0 := by rw [chkG_eq]; kernel_rfl
def oneE : List (List LV) := [eO oneO]

def S9 : PSpec := p0 (LV.rd oneE)
theorem s9 : SoundA PR GL 9 S9 := mkA [e24] 0 Try.func9 (by kernel_rfl) (by kernel_rfl) fun args K hk => by
  have hk1 := p0_inv hk
  clear hk
  obtain ⟨rfl, hk⟩ := hk1
  conv => whnf
  refine And.intro (Nat.le_refl _) ?_
  conv => whnf
  exact hk
noncomputable def e9 : Ent := entA s9 (pspec_fun _)
def S10 : PSpec := p3 encI encI encI fun a b c => LV.agg (eAt ⟨⟨24, ⟨a, 0, 0⟩⟩, b, c⟩)
theorem s10 : SoundA PR GL 10 S10 := mkA [] 0 Try.func10 (by kernel_rfl) (by kernel_rfl) fun args K hk => by
  have hk1 := p3_inv hk
  clear hk
  obtain ⟨a, b, c, rfl, hk⟩ := hk1
  conv => whnf
  exact hk
noncomputable def e10 : Ent := entA s10 (pspec_fun _)

/-! ### Its rounded wave -/
def S68a : PSpec := espec (fun _ : Unit => [.rd [[Cx 13830554455654793216 0]]]) (fun _ => True) (fun _ => Cx 13830554455654793216 0)
theorem s68a : SoundA PR GL 58 S68a := mkA [] 2 Try.func58 (by kernel_rfl) (by kernel_rfl) fun args K hk => by
  obtain ⟨_, rfl, _, hk⟩ := hk
  conv => whnf
  exact hk
noncomputable def e68a : Ent := entA s68a espec_fun
def S42a : PSpec := espec (fun _ : Unit => [.rd [[Cx 13830554455654793216 0]]]) (fun _ => True) (fun _ => Cx 13830554455654793216 0)
theorem s42a : SoundA PR GL 40 S42a := mkA [e68a] 0 Try.func40 (by kernel_rfl) (by kernel_rfl) fun args K hk => by
  obtain ⟨_, rfl, _, hk⟩ := hk
  conv => whnf
  refine ⟨(), rfl, trivial, ?_⟩
  conv => whnf
  exact hk
noncomputable def e42a : Ent := entA s42a espec_fun
def S41a : PSpec := espec (fun _ : Unit => [Cx 4618441417868443648 4611686018427387904, Cx 13830554455654793216 0]) (fun _ => True) (fun _ => Cx 13841813454723219456 13835058055282163712)
theorem s41a : SoundA PR GL 39 S41a := mkA [] 0 Try.func39 (by kernel_rfl) (by kernel_rfl) fun args K hk => by
  obtain ⟨_, rfl, _, hk⟩ := hk
  conv => whnf
  exact hk
noncomputable def e41a : Ent := entA s41a espec_fun
def S23a : PSpec := espec (fun _ : Unit => [.rd [eAt atW], .rd [[.rd [ePt ⟨24, x12⟩]]], .agg (eV h100)]) (fun _ => True) (fun _ => Cx 13841813454723219456 13835058055282163712)
theorem s23a : SoundA PR GL 22 S23a := mkA [e17, e40a, e41a, e42a] 2 Try.func22 (by kernel_rfl) (by kernel_rfl) fun args K hk => by
  obtain ⟨_, rfl, _, hk⟩ := hk
  conv => whnf
  refine ⟨(h100, 24, x12), rfl, (by decide), ?_⟩
  conv => whnf
  refine ⟨(), rfl, trivial, ?_⟩
  conv => whnf
  refine And.intro (Nat.le_refl _) ?_
  conv => whnf
  refine ⟨(by show (1 : Nat) * 16 ≤ 140737488355328; decide), all1 rfl, ?_⟩
  conv => whnf
  refine And.intro (Nat.le_refl _) ?_
  conv => whnf
  refine ⟨(), rfl, trivial, ?_⟩
  conv => whnf
  refine ⟨(), rfl, trivial, ?_⟩
  conv => whnf
  exact hk
noncomputable def e23a : Ent := entA s23a espec_fun
def S16a : PSpec := espec (fun _ : Unit => [.rd oneE, .rd [eAt atW]]) (fun _ => True) (fun _ => .rd [[.rd [ePt ⟨24, x12⟩]]])
theorem s16a : SoundA PR GL 19 S16a := s16.mono fun args K hk => by
  obtain ⟨_, rfl, _, hk⟩ := hk
  refine ⟨([oneO], [atW], 24), rfl, ⟨chk1, .a, fun a ha => ?_, by decide⟩, ?_⟩
  · rw [List.mem_singleton.1 ha]; exact ⟨rfl, x12_ok⟩
  · show K (.rd [[.rd (ptsE 24 (orbV [oneO] 24 x12))]])
    rw [orb12]
    exact hk
noncomputable def e16a : Ent := entA s16a espec_fun
def S8a : PSpec := espec (fun _ : Unit => [.rd oneE, .rd [eAt atW], .agg (eV h100)]) (fun _ => True) (fun _ => Er (Cx 13841813454723219456 13835058055282163712) 0)
theorem s8a : SoundA PR GL 8 S8a := mkA [e13, e14, e15, e12c, e16a, e23a] 0 Try.func8 (by kernel_rfl) (by kernel_rfl) fun args K hk => by
  obtain ⟨_, rfl, _, hk⟩ := hk
  have hz : (least3 (chkG [oneO]) (chkA [atW]) 0 != 0) = false := by rw [chk1]; decide
  conv => whnf
  refine ⟨[oneO], rfl, trivial, ?_⟩
  conv => whnf
  refine ⟨[atW], rfl, (by decide), ?_⟩
  conv => whnf
  refine And.intro (Nat.le_refl _) ?_
  generalize chkG [oneO] = cg at hz
  generalize chkA [atW] = ca at hz
  conv => whnf
  refine pickB_no hz ?_
  conv => whnf
  refine ⟨(), rfl, trivial, ?_⟩
  conv => whnf
  refine ⟨(), rfl, trivial, ?_⟩
  conv => whnf
  exact hk
noncomputable def e8a : Ent := entA s8a espec_fun

/-! ### Its exact one -/
def S5a : PSpec := espec (fun _ : Unit => [.rd oneE, .rd [eAt atE], .agg (eV h100)]) (fun _ => True) (fun _ => Er (.agg [I 24, .rd (eNs ring6)]) 0)
theorem s5a : SoundA PR GL 6 S5a := s5.mono fun args K hk => by
  obtain ⟨_, rfl, _, hk⟩ := hk
  refine ⟨([oneO], [atE], h100), rfl, by decide, ?_⟩
  show K (bif errX [oneO] [atE] h100 != 0 then Er (.agg [I 0, .rd []]) (errX [oneO] [atE] h100) else Er (.agg [I (m0A [atE]), .rd (eNs (exC [oneO] (m0A [atE]) h100 [atE]))]) 0)
  have h1 : errX [oneO] [atE] h100 = 0 := by rw [errX_eq]; kernel_rfl
  have h2 : exC [oneO] 24 h100 [atE] = ring6 := by
    rw [← exC_eq gone_ok .a h100 (l := [atE]) (fun a ha => by rw [List.mem_singleton.1 ha]; exact ⟨rfl, x12_ok⟩)]
    kernel_rfl
  rw [h1]
  show K (Er (.agg [I 24, .rd (eNs (exC [oneO] 24 h100 [atE]))]) 0)
  rw [h2]
  exact hk
noncomputable def e5d : Ent := entD s5a
theorem same6 : sameR (24, ring6) (24, ring6) = true := by kernel_rfl
def S4 : PSpec := p0 (Bo true)
theorem s4 : SoundA PR GL 4 S4 := mkA [e9, e10, e8a, e5d, e11a, e7] 0 Try.func4 (by kernel_rfl) (by kernel_rfl) fun args K hk => by
  have hk1 := p0_inv hk
  clear hk
  obtain ⟨rfl, hk⟩ := hk1
  conv => whnf
  refine And.intro (Nat.le_refl _) ?_
  conv => whnf
  refine ⟨(), rfl, trivial, ?_⟩
  conv => whnf
  refine And.intro (Nat.le_refl _) ?_
  conv => whnf
  refine ⟨(), rfl, trivial, ?_⟩
  conv => whnf
  refine ⟨(), rfl, trivial, ?_⟩
  conv => whnf
  refine ⟨((24, ring6), (24, ring6)), rfl, (by decide), ?_⟩
  conv => whnf
  exact hk
noncomputable def e4 : Ent := entA s4 (pspec_fun _)

/-! ### The law -/
theorem eqL2_refl : ∀ c : List Int, eqL2 c c = true
  | [] => rfl
  | a :: r => by
    unfold eqL2
    have : (a != a) = false := by simp
    rw [this, cond_false, eqL2_refl r]
theorem sameR_refl (a : Int × List Int) : sameR a a = true := by
  unfold sameR
  have h1 : (a.1 != a.1) = false := by simp
  have h2 : ((a.2.length : Int) != (a.2.length : Int)) = false := by simp
  rw [h1, h2, cond_false, cond_false, eqL2_refl]
theorem addO_len {g : List O} {m : Int} {h : V} {a : Atm} : ∀ {O : List V} {c : List Int}, (O.foldl (addP m h a) c).length = c.length
  | [], c => rfl
  | v :: r, c => by rw [List.foldl_cons, addO_len (g := g)]; unfold addP; rw [addC_len, addC_len]
theorem exC_len {g : List O} {m : Int} {h : V} : ∀ {l : List Atm} {c : List Int}, (l.foldl (addO g m h) c).length = c.length
  | [], c => rfl
  | a :: r, c => by rw [List.foldl_cons, exC_len]; unfold addO; exact addO_len (g := g)
def exAns (g : List O) (l : List Atm) (h : V) : (Int × List Int) × Int :=
  bif errX g l h != 0 then ((0, []), errX g l h) else ((m0A l, exC g (m0A l) h l), 0)
theorem exAns_len (g : List O) (l : List Atm) (h : V) : (exAns g l h).1.2.length ≤ 4611686018427387904 := by
  unfold exAns
  cases hb : errX g l h != 0 with
  | true => exact Nat.zero_le _
  | false =>
    have he : errX g l h = 0 := by simpa using hb
    obtain ⟨_, hA, _⟩ := least3_zero he
    have hp := (chkA_ok hA).m.pos
    show (exC g (m0A l) h l).length ≤ _
    unfold exC
    rw [exC_len]
    simp
    omega
def S5c : PSpec := espec (fun x : List O × List Atm × V => [.rd (eOs x.1), .rd (eAs x.2.1), .agg (eV x.2.2)]) (fun x => x.2.1.length ≤ 4611686018427387904)
  (fun x => Er (.agg [I (exAns x.1 x.2.1 x.2.2).1.1, .rd (eNs (exAns x.1 x.2.1 x.2.2).1.2)]) (exAns x.1 x.2.1 x.2.2).2)
theorem s5c : SoundA PR GL 6 S5c := s5.mono fun args K hk => by
  obtain ⟨⟨g, l, h⟩, rfl, hlen, hk⟩ := hk
  refine ⟨(g, l, h), rfl, hlen, ?_⟩
  replace hk : K (Er (.agg [I (exAns g l h).1.1, .rd (eNs (exAns g l h).1.2)]) (exAns g l h).2) := hk
  show K (bif errX g l h != 0 then Er (.agg [I 0, .rd []]) (errX g l h) else Er (.agg [I (m0A l), .rd (eNs (exC g (m0A l) h l))]) 0)
  unfold exAns at hk
  cases hb : errX g l h != 0 with
  | true => rw [hb] at hk; exact hk
  | false => rw [hb] at hk; exact hk
noncomputable def e5c : Ent := entA s5c espec_fun
def S6c : PSpec := espec (fun x : List O × List Atm × V => [.rd (eOs x.1), .rd (eAs x.2.1), .agg (eV x.2.2)]) (fun x => x.2.1.length ≤ 4611686018427387904)
  (fun x => Er (.agg [I (exAns x.1 x.2.1 x.2.2).1.1, .rd (eNs (exAns x.1 x.2.1 x.2.2).1.2)]) (exAns x.1 x.2.1 x.2.2).2)
def S3 : PSpec := espec (fun x : List O × List Atm × V => [.rd (eOs x.1), .rd (eAs x.2.1), .agg (eV x.2.2)]) (fun x => x.2.1.length ≤ 4611686018427387904) (fun _ => Bo true)
end E
end Go.Proofs.Ytjhognibibmeiaa
