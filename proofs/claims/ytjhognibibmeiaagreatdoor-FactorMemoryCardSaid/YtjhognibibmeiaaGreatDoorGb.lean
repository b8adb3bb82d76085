/-
  THE ROUNDED WAVE, fourth part: the two walks over the atoms.
  THE ROUNDED WAVE, fifth part: Wave, Phase, the law.
  THE ROUNDED WAVE, sixth part: the law's own example, and the law of waves.
-/
import Derived.Test.YtjhognibibmeiaaGreatDoorGa
import Derived.Test.YtjhognibibmeiaaGreatDoorLd
section
set_option linter.unusedVariables false
set_option maxRecDepth 100000
set_option maxHeartbeats 8000000
namespace Go.Proofs.YtjhognibibmeiaaGreatDoor
namespace E
open Go Go.RowKit

structure OkW (m : Int) (l : List (Atm × List V)) : Prop where
  m4 : Is4 m
  len : l.length ≤ 256
  e : ∀ x ∈ l, heavyA x.1 = false ∧ x.2.length ≤ 192
def atE1 (l : List (Atm × List V)) : List (List LV) := l.map fun z => eAt z.1
def orE1 (m : Int) (l : List (Atm × List V)) : List (List LV) := l.map fun z => [.rd (ptsE m z.2)]
def SDw : PSpec := espec (fun x : List (Atm × List V) × Int × V => [.rd (atE1 x.1), .rd (orE1 x.2.1 x.1), .agg (eV x.2.2)]) (fun x => OkW x.2.1 x.1) (fun x => Cp (waveF x.2.2 x.2.1 x.1 (0, 0)))
theorem turns_snoc (l : List (Nat × Nat)) (t : Nat × Nat) : eCs (l ++ [t]) = eCs l ++ [[Cp t]] := by simp [eCs]
theorem take_snocT {α : Type} {l : List α} {i : Nat} {b : α} (h : l[i]? = some b) : l.take (i + 1) = l.take i ++ [b] := by
  rw [List.take_add_one, h]; rfl
theorem len_snocT (r : List (Nat × Nat)) (a : Nat × Nat) : (r ++ [a]).length = r.length + 1 := by simp
structure CF2 (t : Nat × Nat) : Prop where
  a : CF t.1
  b : CF t.2
theorem fadd_cf {K : Int} (hK : -1001 ≤ K ∧ K ≤ 959) {x y : Nat} (hc : CF x) (hx : FB K x) (hy : FB K y) : CF (fadd x y) := by
  obtain ⟨r, h1, h2, h3⟩ := add_cf hK hc hx hy
  unfold fadd; rw [h1]; exact h3
theorem addT_cf {K : Int} (hK : -1001 ≤ K ∧ K ≤ 959) {s t : Nat × Nat} (hc : CF2 s) (hx : FB2 K s) (hy : FB2 K t) : CF2 (addT s t) :=
  ⟨fadd_cf hK hc.a hx.a hy.a, fadd_cf hK hc.b hx.b hy.b⟩
theorem sumC_two {s t : Nat × Nat} (hc : CF2 s) : sumC [s, t] = addT s t := by
  have h1 : fadd 0 s.1 = s.1 := by unfold fadd; rw [zero_add_f hc.a]; rfl
  have h2 : fadd 0 s.2 = s.2 := by unfold fadd; rw [zero_add_f hc.b]; rfl
  show addT (addT (0, 0) s) t = addT s t
  unfold addT
  simp only [h1, h2]
theorem cf2_zero : CF2 (0, 0) := ⟨cf_zero, cf_zero⟩
theorem eCs_nil : ([] : List (List LV)) = eCs [] := rfl
theorem sD27 : SoundA PR GL 27 SDw := mkA [e17, eD49, eD50, eD51] 0 Tryz.func27 (by kernel_rfl) (by kernel_rfl) fun args K hk => by
  obtain ⟨⟨l, m, h⟩, rfl, hok, hk⟩ := hk
  replace hk : K (Cp (waveF h m l (0, 0))) := hk
  obtain ⟨h4, hlen, hel⟩ := hok
  replace h4 : Is4 m := h4
  replace hlen : l.length ≤ 256 := hlen
  replace hel : ∀ x ∈ l, heavyA x.1 = false ∧ x.2.length ≤ 192 := hel
  have hl : (atE1 l).length = l.length := by simp [atE1]
  have hmp := h4.pos
  conv => whnf
  refine LoopP.weaken (s2 := ⟨[.unk, .rd (orE1 m l), .unk, .unk, .unk, .ptr 0 0 0, .unk, Cp (0, 0), .unk, .unk, .unk, .unk, .unk, .unk, .unk, .rd (atE1 l), I ((atE1 l).length : Int), I (0 : Nat), .unk, .unk, .unk, .unk, .unk, .unk, .unk, .unk, .unk, .unk, .unk, .unk, .unk, .unk, .unk, .unk, .unk, .unk, .unk, .unk, .unk, .unk, .unk, .unk, .unk, .unk, .unk, .unk, .unk, .unk, .unk, .unk, .unk, .unk, .unk, .unk, .unk, .unk, .unk, .unk, .unk], [.box (eV h)]⟩) [0] ⟨?_, ?_, by decide, rfl⟩ ?_
  · repeat' (first | exact trivial | exact congrArg (fun x => LV.v (Value.int .i64 x)) (wrapS (by omega)) | rfl | ((conv => whnf); refine And.intro ?_ ?_))
  · repeat' (first | exact trivial | rfl | exact fun h => h | ((conv => whnf); refine And.intro ?_ ?_))
  refine loopInd 0 (by kernel_rfl) l.length (fun i (s : Nat × Nat) => ⟨[.unk, .rd (orE1 m l), .unk, .unk, .unk, .ptr 0 0 0, .unk, Cp s, .unk, .unk, .unk, .unk, .unk, .unk, .unk, .rd (atE1 l), I ((atE1 l).length : Int), I (i : Nat), .unk, .unk, .unk, .unk, .unk, .unk, .unk, .unk, .unk, .unk, .unk, .unk, .unk, .unk, .unk, .unk, .unk, .unk, .unk, .unk, .unk, .unk, .unk, .unk, .unk, .unk, .unk, .unk, .unk, .unk, .unk, .unk, .unk, .unk, .unk, .unk, .unk, .unk, .unk, .unk, .unk], [.box (eV h)]⟩) (fun i s => waveF h m (l.drop i) s = waveF h m l (0, 0) ∧ FB2 (410 + 2 * (i : Int)) s ∧ CF2 s) ?_ 0 (0, 0) (Nat.zero_le _) ⟨rfl, fb2_zero, cf2_zero⟩
  rintro i s hi ⟨hJ, hf, hc⟩
  rcases Nat.lt_or_ge i l.length with hlt | hge
  · obtain ⟨⟨a, O⟩, ha⟩ : ∃ o, l[i]? = some o := ⟨_, List.getElem?_eq_getElem hlt⟩
    obtain ⟨hea, hO⟩ := hel _ (List.mem_of_getElem? ha)
    replace hea : heavyA a = false := hea
    replace hO : O.length ≤ 192 := hO
    have hcond : decide ((i : Int) < ((atE1 l).length : Int)) = true := by rw [hl]; exact lt_dec hlt
    have hae : (atE1 l)[(i : Int).toNat]? = some (eAt a) := get_map (f := fun z : Atm × List V => eAt z.1) ha
    have hoe : (orE1 m l)[(i : Int).toNat]? = some [.rd (ptsE m O)] := get_map (f := fun z : Atm × List V => [LV.rd (ptsE m z.2)]) ha
    rw [drop_get ha] at hJ
    replace hJ : waveF h m (l.drop (i + 1)) (addT s (termW h m a O)) = waveF h m l (0, 0) := hJ
    obtain ⟨hw1, hw2, hw3⟩ := termW_ok h4 hea hO (h := h)
    have hpl : (ptsE m O).length = O.length := by simp [ptsE]
    have hto : (turnsO h m O).length = O.length := by simp [turnsO]
    conv => whnf
    refine pickB_yes hcond ?_
    conv => whnf
    refine eltK_iff.2 ⟨_, hae, ?_⟩
    conv => whnf
    refine eltK_iff.2 ⟨_, hoe, ?_⟩
    conv => whnf
    refine LoopP.weaken (s2 := ⟨[.unk, .rd (orE1 m l), .unk, .unk, .unk, .ptr 0 0 0, .unk, Cp s, I (i : Nat), .ptr 1 0 0, .v (.slice none 0 0), .unk, .unk, .unk, .unk, .rd (atE1 l), I ((atE1 l).length : Int), I (i : Nat), .unk, .unk, .unk, .unk, .unk, .unk, .unk, .rd (ptsE m O), I ((ptsE m O).length : Int), I (0 : Nat), .unk, .unk, .unk, .unk, .unk, .unk, .unk, .unk, .unk, .unk, .unk, .unk, .unk, .unk, .unk, .unk, .unk, .unk, .unk, .unk, .unk, .unk, .unk, .unk, .unk, .unk, .unk, .unk, .unk, .unk, .unk], [.box (eV h), .box (eAt a)]⟩) [0, 1] ⟨?_, ?_, by decide, rfl⟩ ?_
    · repeat' (first | exact trivial | exact congrArg (fun x => LV.v (Value.int .i64 x)) (wrapS (by omega)) | rfl | ((conv => whnf); refine And.intro ?_ ?_))
    · repeat' (first | exact trivial | rfl | exact fun h => h | ((conv => whnf); refine And.intro ?_ ?_))
    refine loopInd 0 (by kernel_rfl) O.length (fun j (ts : List (Nat × Nat)) => match ts with
        | [] => ⟨[.unk, .rd (orE1 m l), .unk, .unk, .unk, .ptr 0 0 0, .unk, Cp s, I (i : Nat), .ptr 1 0 0, .v (.slice none 0 0), .unk, .unk, .unk, .unk, .rd (atE1 l), I ((atE1 l).length : Int), I (i : Nat), .unk, .unk, .unk, .unk, .unk, .unk, .unk, .rd (ptsE m O), I ((ptsE m O).length : Int), I (j : Nat), .unk, .unk, .unk, .unk, .unk, .unk, .unk, .unk, .unk, .unk, .unk, .unk, .unk, .unk, .unk, .unk, .unk, .unk, .unk, .unk, .unk, .unk, .unk, .unk, .unk, .unk, .unk, .unk, .unk, .unk, .unk], [.box (eV h), .box (eAt a)]⟩
        | v :: r => ⟨[.unk, .rd (orE1 m l), .unk, .unk, .unk, .ptr 0 0 0, .unk, Cp s, I (i : Nat), .ptr 1 0 0, .sl 2 0 (v :: r).length none, .unk, .unk, .unk, .unk, .rd (atE1 l), I ((atE1 l).length : Int), I (i : Nat), .unk, .unk, .unk, .unk, .unk, .unk, .unk, .rd (ptsE m O), I ((ptsE m O).length : Int), I (j : Nat), .unk, .unk, .unk, .unk, .unk, .unk, .unk, .unk, .unk, .unk, .unk, .unk, .unk, .unk, .unk, .unk, .unk, .unk, .unk, .unk, .unk, .unk, .unk, .unk, .unk, .unk, .unk, .unk, .unk, .unk, .unk], [.box (eV h), .box (eAt a), .row 1 false (eCs (v :: r))]⟩)
      (fun j ts => ts = (turnsO h m O).take j) ?_ 0 [] (Nat.zero_le _) rfl
    clear hcond hae hoe
    intro j ts hj hT
    rcases Nat.lt_or_ge j O.length with hlt2 | hge2
    · obtain ⟨v0, hv⟩ : ∃ o, O[j]? = some o := ⟨_, List.getElem?_eq_getElem hlt2⟩
      have hcond : decide ((j : Int) < ((ptsE m O).length : Int)) = true := by rw [hpl]; exact lt_dec hlt2
      have hrg := phF_rng (h := h) (x := v0) h4
      have htv : (turnsO h m O)[j]? = some (turnP (phF h m v0) m) := by unfold turnsO; rw [List.getElem?_map, hv]; rfl
      have hnext : (turnsO h m O).take (j + 1) = ts ++ [turnP (phF h m v0) m] := by rw [hT]; exact take_snocT htv
      have htl : ts.length = j := by rw [hT, List.length_take, hto]; omega
      have hpe : (ptsE m O)[(j : Int).toNat]? = some (ePt ⟨m, v0⟩) := getP hv (by simp)
      clear hT
      cases ts with
      | nil =>
        conv => whnf
        refine pickB_yes hcond ?_
        conv => whnf
        refine eltK_iff.2 ⟨_, hpe, ?_⟩
        conv => whnf
        refine ⟨(h, m, v0), rfl, (by show m ≠ (0 : Int); omega), ?_⟩
        conv => whnf
        refine ⟨(phF h m v0, m), rfl, ⟨h4, hrg⟩, ?_⟩
        conv => whnf
        refine And.intro (Nat.le_refl _) ?_
        conv => whnf
        refine ⟨(by show (1 : Nat) * 16 ≤ 140737488355328; decide), all1 rfl, ?_⟩
        conv => whnf
        refine' ⟨[turnP (phF h m v0) m], [0, 1, 4], hlt2, ?jn, ⟨?tn, ?hn, by decide, rfl⟩⟩
        case tn => repeat' (first | exact trivial | exact congrArg (fun x => LV.v (Value.int .i64 x)) (wrapS (by omega)) | rfl | ((conv => whnf); refine And.intro ?_ ?_))
        case hn => repeat' (first | exact trivial | rfl | (exact fun h => h) | ((conv => whnf); refine And.intro ?_ ?_))
        case jn => rw [hnext]; rfl
      | cons v r =>
        conv => whnf
        refine pickB_yes hcond ?_
        conv => whnf
        refine eltK_iff.2 ⟨_, hpe, ?_⟩
        conv => whnf
        refine ⟨(h, m, v0), rfl, (by show m ≠ (0 : Int); omega), ?_⟩
        conv => whnf
        refine ⟨(phF h m v0, m), rfl, ⟨h4, hrg⟩, ?_⟩
        conv => whnf
        refine And.intro (Nat.le_refl _) ?_
        conv => whnf
        have hpl2 : (eCs (v :: r)).length = (v :: r).length := by simp [eCs]
        have hil : (v :: r).length ≤ 192 := by omega
        refine ⟨rfl, hpl2, ?_, all1 rfl, ?_⟩
        · show ((v :: r).length + 1) * 16 ≤ 140737488355328
          omega
        conv => whnf
        refine' ⟨(v :: r) ++ [turnP (phF h m v0) m], [0, 1, 5], hlt2, ?jc, ⟨?tc, ?hc2, by decide, rfl⟩⟩
        case tc => repeat' (first | exact trivial | exact congrArg (fun x => LV.v (Value.int .i64 x)) (wrapS (by omega)) | rfl | (exact (len_snocT (v :: r) (turnP (phF h m v0) m)).symm) | ((conv => whnf); refine And.intro ?_ ?_))
        case hc2 => repeat' (first | exact trivial | rfl | (exact fun h => h) | (exact (turns_snoc (v :: r) (turnP (phF h m v0) m)).symm) | ((conv => whnf); refine And.intro ?_ ?_))
        case jc => rw [hnext]
    · have hcond : decide ((j : Int) < ((ptsE m O).length : Int)) = false := by rw [hpl]; exact ge_dec hge2
      have hall : ts = turnsO h m O := by
        rw [hT]
        exact List.take_of_length_le (by rw [hto]; exact hge2)
      clear hT
      have hsum : SumOK 1 ts := by rw [hall]; exact turnsO_ok h4 hO
      have htw : termW h m a O = mulC (wtF a.w, wtF a.o) (sumC ts) := by rw [hall]; rfl
      have hw2' : FB2 385 (sumC ts) := by rw [hall]; exact hw2
      have hf3 := hw3.mono (show (409 : Int) ≤ 410 + 2 * (i : Int) by omega)
      have hK : -1001 ≤ 410 + 2 * (i : Int) ∧ 410 + 2 * (i : Int) ≤ 959 := by omega
      have a1 := fadd_ok hK hf.a hf3.a
      have a2 := fadd_ok hK hf.b hf3.b
      have hnf := addT_ok hK hf hf3
      have hnc := addT_cf hK hc hf hf3
      have hnx : 410 + 2 * (i : Int) + 2 = 410 + 2 * ((i + 1 : Nat) : Int) := by omega
      rw [hnx] at hnf
      clear hall hw3 hw2
      have hs2 : SumOK (410 + 2 * (i : Int)) [s, termW h m a O] := ⟨⟨by omega, by simp; omega⟩, fun t ht => by
        rcases List.mem_cons.1 ht with rfl | ht
        · exact hf
        · rw [List.mem_singleton.1 ht]; exact hf3⟩
      have hs3 := sumC_two (t := termW h m a O) hc
      rw [htw] at hJ hf3 a1 a2 hnf hnc hs2 hs3
      clear htw
      cases ts with
      | nil =>
        conv => whnf
        refine pickB_no hcond ?_
        conv => whnf
        refine ⟨(1, []), rfl, hsum, ?_⟩
        conv => whnf
        refine ⟨((wtF a.w, wtF a.o), sumC []), rfl, ⟨hw1, hw2'⟩, ?_⟩
        conv => whnf
        refine fltK_of a1.1 ?_
        conv => whnf
        refine fltK_of a2.1 ?_
        conv => whnf
        refine' ⟨addT s (mulC (wtF a.w, wtF a.o) (sumC [])), [0], hlt, ⟨hJ, hnf, hnc⟩, ⟨?ta, ?ha, by decide, rfl⟩⟩
        case ta => repeat' (first | exact trivial | exact congrArg (fun x => LV.v (Value.int .i64 x)) (wrapS (by omega)) | rfl | ((conv => whnf); refine And.intro ?_ ?_))
        case ha => repeat' (first | exact trivial | rfl | exact fun h => h | ((conv => whnf); refine And.intro ?_ ?_))
      | cons v r =>
        conv => whnf
        refine pickB_no hcond ?_
        conv => whnf
        refine And.intro (by simp [eCs]) ?_
        have e : List.take (v :: r).length (List.drop 0 (eCs (v :: r))) = eCs (v :: r) := by
          rw [List.drop_zero]
          exact List.take_of_length_le (by simp [eCs])
        conv => whnf
        refine ⟨(1, v :: r), congrArg (fun x => [LV.rd x]) e, hsum, ?_⟩
        conv => whnf
        refine ⟨((wtF a.w, wtF a.o), sumC (v :: r)), rfl, ⟨hw1, hw2'⟩, ?_⟩
        conv => whnf
        refine fltK_of a1.1 ?_
        conv => whnf
        refine fltK_of a2.1 ?_
        conv => whnf
        refine' ⟨addT s (mulC (wtF a.w, wtF a.o) (sumC (v :: r))), [0], hlt, ⟨hJ, hnf, hnc⟩, ⟨?tb, ?hb, by decide, rfl⟩⟩
        case tb => repeat' (first | exact trivial | exact congrArg (fun x => LV.v (Value.int .i64 x)) (wrapS (by omega)) | rfl | ((conv => whnf); refine And.intro ?_ ?_))
        case hb => repeat' (first | exact trivial | rfl | exact fun h => h | ((conv => whnf); refine And.intro ?_ ?_))
  · have hcond : decide ((i : Int) < ((atE1 l).length : Int)) = false := by rw [hl]; exact ge_dec hge
    rw [List.drop_eq_nil_of_le hge] at hJ
    replace hJ : s = waveF h m l (0, 0) := hJ
    rw [← hJ] at hk
    conv => whnf
    refine pickB_no hcond ?_
    conv => whnf
    exact hk
noncomputable def eD27 : Ent := entA sD27 espec_fun
theorem sD30 : SoundA PR GL 30 SDw := mkA [e21, eD55, eD56, eD57] 0 Tryz.func30 (by kernel_rfl) (by kernel_rfl) fun args K hk => by
  obtain ⟨⟨l, m, h⟩, rfl, hok, hk⟩ := hk
  replace hk : K (Cp (waveF h m l (0, 0))) := hk
  obtain ⟨h4, hlen, hel⟩ := hok
  replace h4 : Is4 m := h4
  replace hlen : l.length ≤ 256 := hlen
  replace hel : ∀ x ∈ l, heavyA x.1 = false ∧ x.2.length ≤ 192 := hel
  have hl : (atE1 l).length = l.length := by simp [atE1]
  have hmp := h4.pos
  conv => whnf
  refine LoopP.weaken (s2 := ⟨[.unk, .rd (orE1 m l), .unk, .unk, .unk, .ptr 0 0 0, .unk, Cp (0, 0), .unk, .unk, .unk, .unk, .unk, .rd (atE1 l), I ((atE1 l).length : Int), I (0 : Nat), .unk, .unk, .unk, .unk, .unk, .unk, .unk, .unk, .unk, .unk, .unk, .unk, .unk, .unk, .unk, .unk, .unk, .unk, .unk, .unk, .unk, .unk, .unk, .unk, .unk, .unk, .unk, .unk, .unk, .unk, .unk, .unk, .unk, .unk, .unk, .unk, .unk, .unk], [.box (eV h)]⟩) [0] ⟨?_, ?_, by decide, rfl⟩ ?_
  · repeat' (first | exact trivial | exact congrArg (fun x => LV.v (Value.int .i64 x)) (wrapS (by omega)) | rfl | ((conv => whnf); refine And.intro ?_ ?_))
  · repeat' (first | exact trivial | rfl | exact fun h => h | ((conv => whnf); refine And.intro ?_ ?_))
  refine loopInd 0 (by kernel_rfl) l.length (fun i (s : Nat × Nat) => ⟨[.unk, .rd (orE1 m l), .unk, .unk, .unk, .ptr 0 0 0, .unk, Cp s, .unk, .unk, .unk, .unk, .unk, .rd (atE1 l), I ((atE1 l).length : Int), I (i : Nat), .unk, .unk, .unk, .unk, .unk, .unk, .unk, .unk, .unk, .unk, .unk, .unk, .unk, .unk, .unk, .unk, .unk, .unk, .unk, .unk, .unk, .unk, .unk, .unk, .unk, .unk, .unk, .unk, .unk, .unk, .unk, .unk, .unk, .unk, .unk, .unk, .unk, .unk], [.box (eV h)]⟩) (fun i s => waveF h m (l.drop i) s = waveF h m l (0, 0) ∧ FB2 (410 + 2 * (i : Int)) s ∧ CF2 s) ?_ 0 (0, 0) (Nat.zero_le _) ⟨rfl, fb2_zero, cf2_zero⟩
  rintro i s hi ⟨hJ, hf, hc⟩
  rcases Nat.lt_or_ge i l.length with hlt | hge
  · obtain ⟨⟨a, O⟩, ha⟩ : ∃ o, l[i]? = some o := ⟨_, List.getElem?_eq_getElem hlt⟩
    obtain ⟨hea, hO⟩ := hel _ (List.mem_of_getElem? ha)
    replace hea : heavyA a = false := hea
    replace hO : O.length ≤ 192 := hO
    have hcond : decide ((i : Int) < ((atE1 l).length : Int)) = true := by rw [hl]; exact lt_dec hlt
    have hae : (atE1 l)[(i : Int).toNat]? = some (eAt a) := get_map (f := fun z : Atm × List V => eAt z.1) ha
    have hoe : (orE1 m l)[(i : Int).toNat]? = some [.rd (ptsE m O)] := get_map (f := fun z : Atm × List V => [LV.rd (ptsE m z.2)]) ha
    rw [drop_get ha] at hJ
    replace hJ : waveF h m (l.drop (i + 1)) (addT s (termW h m a O)) = waveF h m l (0, 0) := hJ
    obtain ⟨hw1, hw2, hw3⟩ := termW_ok h4 hea hO (h := h)
    have hpl : (ptsE m O).length = O.length := by simp [ptsE]
    have hto : (turnsO h m O).length = O.length := by simp [turnsO]
    conv => whnf
    refine pickB_yes hcond ?_
    conv => whnf
    refine eltK_iff.2 ⟨_, hae, ?_⟩
    conv => whnf
    refine eltK_iff.2 ⟨_, hoe, ?_⟩
    conv => whnf
    refine LoopP.weaken (s2 := ⟨[.unk, .rd (orE1 m l), .unk, .unk, .unk, .ptr 0 0 0, .unk, Cp s, I (i : Nat), .ptr 1 0 0, .v (.slice none 0 0), .unk, .unk, .rd (atE1 l), I ((atE1 l).length : Int), I (i : Nat), .unk, .unk, .unk, .unk, .unk, .unk, .unk, .rd (ptsE m O), I ((ptsE m O).length : Int), I (0 : Nat), .unk, .unk, .unk, .unk, .unk, .unk, .unk, .unk, .unk, .unk, .unk, .unk, .unk, .unk, .unk, .unk, .unk, .unk, .unk, .unk, .unk, .unk, .unk, .unk, .unk, .unk, .unk, .unk], [.box (eV h), .box (eAt a)]⟩) [0, 1] ⟨?_, ?_, by decide, rfl⟩ ?_
    · repeat' (first | exact trivial | exact congrArg (fun x => LV.v (Value.int .i64 x)) (wrapS (by omega)) | rfl | ((conv => whnf); refine And.intro ?_ ?_))
    · repeat' (first | exact trivial | rfl | exact fun h => h | ((conv => whnf); refine And.intro ?_ ?_))
    refine loopInd 0 (by kernel_rfl) O.length (fun j (ts : List (Nat × Nat)) => match ts with
        | [] => ⟨[.unk, .rd (orE1 m l), .unk, .unk, .unk, .ptr 0 0 0, .unk, Cp s, I (i : Nat), .ptr 1 0 0, .v (.slice none 0 0), .unk, .unk, .rd (atE1 l), I ((atE1 l).length : Int), I (i : Nat), .unk, .unk, .unk, .unk, .unk, .unk, .unk, .rd (ptsE m O), I ((ptsE m O).length : Int), I (j : Nat), .unk, .unk, .unk, .unk, .unk, .unk, .unk, .unk, .unk, .unk, .unk, .unk, .unk, .unk, .unk, .unk, .unk, .unk, .unk, .unk, .unk, .unk, .unk, .unk, .unk, .unk, .unk, .unk], [.box (eV h), .box (eAt a)]⟩
        | v :: r => ⟨[.unk, .rd (orE1 m l), .unk, .unk, .unk, .ptr 0 0 0, .unk, Cp s, I (i : Nat), .ptr 1 0 0, .sl 2 0 (v :: r).length none, .unk, .unk, .rd (atE1 l), I ((atE1 l).length : Int), I (i : Nat), .unk, .unk, .unk, .unk, .unk, .unk, .unk, .rd (ptsE m O), I ((ptsE m O).length : Int), I (j : Nat), .unk, .unk, .unk, .unk, .unk, .unk, .unk, .unk, .unk, .unk, .unk, .unk, .unk, .unk, .unk, .unk, .unk, .unk, .unk, .unk, .unk, .unk, .unk, .unk, .unk, .unk, .unk, .unk], [.box (eV h), .box (eAt a), .row 1 false (eCs (v :: r))]⟩)
      (fun j ts => ts = (turnsO h m O).take j) ?_ 0 [] (Nat.zero_le _) rfl
    clear hcond hae hoe
    intro j ts hj hT
    rcases Nat.lt_or_ge j O.length with hlt2 | hge2
    · obtain ⟨v0, hv⟩ : ∃ o, O[j]? = some o := ⟨_, List.getElem?_eq_getElem hlt2⟩
      have hcond : decide ((j : Int) < ((ptsE m O).length : Int)) = true := by rw [hpl]; exact lt_dec hlt2
      have hrg := phF_rng (h := h) (x := v0) h4
      have htv : (turnsO h m O)[j]? = some (turnP (phF h m v0) m) := by unfold turnsO; rw [List.getElem?_map, hv]; rfl
      have hnext : (turnsO h m O).take (j + 1) = ts ++ [turnP (phF h m v0) m] := by rw [hT]; exact take_snocT htv
      have htl : ts.length = j := by rw [hT, List.length_take, hto]; omega
      have hpe : (ptsE m O)[(j : Int).toNat]? = some (ePt ⟨m, v0⟩) := getP hv (by simp)
      clear hT
      cases ts with
      | nil =>
        conv => whnf
        refine pickB_yes hcond ?_
        conv => whnf
        refine eltK_iff.2 ⟨_, hpe, ?_⟩
        conv => whnf
        refine ⟨(h, m, v0), rfl, (by show m ≠ (0 : Int); omega), ?_⟩
        conv => whnf
        refine ⟨(phF h m v0, m), rfl, ⟨h4, hrg⟩, ?_⟩
        conv => whnf
        refine And.intro (Nat.le_refl _) ?_
        conv => whnf
        refine ⟨(by show (1 : Nat) * 16 ≤ 140737488355328; decide), all1 rfl, ?_⟩
        conv => whnf
        refine' ⟨[turnP (phF h m v0) m], [0, 1, 4], hlt2, ?jn, ⟨?tn, ?hn, by decide, rfl⟩⟩
        case tn => repeat' (first | exact trivial | exact congrArg (fun x => LV.v (Value.int .i64 x)) (wrapS (by omega)) | rfl | ((conv => whnf); refine And.intro ?_ ?_))
        case hn => repeat' (first | exact trivial | rfl | (exact fun h => h) | ((conv => whnf); refine And.intro ?_ ?_))
        case jn => rw [hnext]; rfl
      | cons v r =>
        conv => whnf
        refine pickB_yes hcond ?_
        conv => whnf
        refine eltK_iff.2 ⟨_, hpe, ?_⟩
        conv => whnf
        refine ⟨(h, m, v0), rfl, (by show m ≠ (0 : Int); omega), ?_⟩
        conv => whnf
        refine ⟨(phF h m v0, m), rfl, ⟨h4, hrg⟩, ?_⟩
        conv => whnf
        refine And.intro (Nat.le_refl _) ?_
        conv => whnf
        have hpl2 : (eCs (v :: r)).length = (v :: r).length := by simp [eCs]
        have hil : (v :: r).length ≤ 192 := by omega
        refine ⟨rfl, hpl2, ?_, all1 rfl, ?_⟩
        · show ((v :: r).length + 1) * 16 ≤ 140737488355328
          omega
        conv => whnf
        refine' ⟨(v :: r) ++ [turnP (phF h m v0) m], [0, 1, 5], hlt2, ?jc, ⟨?tc, ?hc2, by decide, rfl⟩⟩
        case tc => repeat' (first | exact trivial | exact congrArg (fun x => LV.v (Value.int .i64 x)) (wrapS (by omega)) | rfl | (exact (len_snocT (v :: r) (turnP (phF h m v0) m)).symm) | ((conv => whnf); refine And.intro ?_ ?_))
        case hc2 => repeat' (first | exact trivial | rfl | (exact fun h => h) | (exact (turns_snoc (v :: r) (turnP (phF h m v0) m)).symm) | ((conv => whnf); refine And.intro ?_ ?_))
        case jc => rw [hnext]
    · have hcond : decide ((j : Int) < ((ptsE m O).length : Int)) = false := by rw [hpl]; exact ge_dec hge2
      have hall : ts = turnsO h m O := by
        rw [hT]
        exact List.take_of_length_le (by rw [hto]; exact hge2)
      clear hT
      have hsum : SumOK 1 ts := by rw [hall]; exact turnsO_ok h4 hO
      have htw : termW h m a O = mulC (wtF a.w, wtF a.o) (sumC ts) := by rw [hall]; rfl
      have hw2' : FB2 385 (sumC ts) := by rw [hall]; exact hw2
      have hf3 := hw3.mono (show (409 : Int) ≤ 410 + 2 * (i : Int) by omega)
      have hK : -1001 ≤ 410 + 2 * (i : Int) ∧ 410 + 2 * (i : Int) ≤ 959 := by omega
      have a1 := fadd_ok hK hf.a hf3.a
      have a2 := fadd_ok hK hf.b hf3.b
      have hnf := addT_ok hK hf hf3
      have hnc := addT_cf hK hc hf hf3
      have hnx : 410 + 2 * (i : Int) + 2 = 410 + 2 * ((i + 1 : Nat) : Int) := by omega
      rw [hnx] at hnf
      clear hall hw3 hw2
      have hs2 : SumOK (410 + 2 * (i : Int)) [s, termW h m a O] := ⟨⟨by omega, by simp; omega⟩, fun t ht => by
        rcases List.mem_cons.1 ht with rfl | ht
        · exact hf
        · rw [List.mem_singleton.1 ht]; exact hf3⟩
      have hs3 := sumC_two (t := termW h m a O) hc
      rw [htw] at hJ hf3 a1 a2 hnf hnc hs2 hs3
      clear htw
      cases ts with
      | nil =>
        conv => whnf
        refine pickB_no hcond ?_
        conv => whnf
        refine ⟨(1, []), rfl, hsum, ?_⟩
        conv => whnf
        refine ⟨((wtF a.w, wtF a.o), sumC []), rfl, ⟨hw1, hw2'⟩, ?_⟩
        conv => whnf
        refine And.intro (Nat.le_refl _) ?_
        conv => whnf
        refine ⟨(410 + 2 * (i : Int), [s, mulC (wtF a.w, wtF a.o) (sumC [])]), rfl, hs2, ?_⟩
        conv => whnf
        rw [← hs3] at hJ hnf hnc
        refine' ⟨sumC [s, mulC (wtF a.w, wtF a.o) (sumC [])], [0], hlt, ⟨hJ, hnf, hnc⟩, ⟨?ta, ?ha, by decide, rfl⟩⟩
        case ta => repeat' (first | exact trivial | exact congrArg (fun x => LV.v (Value.int .i64 x)) (wrapS (by omega)) | rfl | ((conv => whnf); refine And.intro ?_ ?_))
        case ha => repeat' (first | exact trivial | rfl | exact fun h => h | ((conv => whnf); refine And.intro ?_ ?_))
      | cons v r =>
        conv => whnf
        refine pickB_no hcond ?_
        conv => whnf
        refine And.intro (by simp [eCs]) ?_
        have e : List.take (v :: r).length (List.drop 0 (eCs (v :: r))) = eCs (v :: r) := by
          rw [List.drop_zero]
          exact List.take_of_length_le (by simp [eCs])
        conv => whnf
        refine ⟨(1, v :: r), congrArg (fun x => [LV.rd x]) e, hsum, ?_⟩
        conv => whnf
        refine ⟨((wtF a.w, wtF a.o), sumC (v :: r)), rfl, ⟨hw1, hw2'⟩, ?_⟩
        conv => whnf
        refine And.intro (Nat.le_refl _) ?_
        conv => whnf
        refine ⟨(410 + 2 * (i : Int), [s, mulC (wtF a.w, wtF a.o) (sumC (v :: r))]), rfl, hs2, ?_⟩
        conv => whnf
        rw [← hs3] at hJ hnf hnc
        refine' ⟨sumC [s, mulC (wtF a.w, wtF a.o) (sumC (v :: r))], [0], hlt, ⟨hJ, hnf, hnc⟩, ⟨?tb, ?hb, by decide, rfl⟩⟩
        case tb => repeat' (first | exact trivial | exact congrArg (fun x => LV.v (Value.int .i64 x)) (wrapS (by omega)) | rfl | ((conv => whnf); refine And.intro ?_ ?_))
        case hb => repeat' (first | exact trivial | rfl | exact fun h => h | ((conv => whnf); refine And.intro ?_ ?_))
  · have hcond : decide ((i : Int) < ((atE1 l).length : Int)) = false := by rw [hl]; exact ge_dec hge
    rw [List.drop_eq_nil_of_le hge] at hJ
    replace hJ : s = waveF h m l (0, 0) := hJ
    rw [← hJ] at hk
    conv => whnf
    refine pickB_no hcond ?_
    conv => whnf
    exact hk
noncomputable def eD30 : Ent := entA sD30 espec_fun
end E
end Go.Proofs.YtjhognibibmeiaaGreatDoor
end

section
set_option linter.unusedVariables false
set_option maxRecDepth 100000
set_option maxHeartbeats 8000000
namespace Go.Proofs.YtjhognibibmeiaaGreatDoor
namespace E
open Go Go.RowKit

theorem chkA_heavy {l : List Atm} (h : chkA l = 0) : ∀ a ∈ l, heavyA a = false := fun a ha => ((chkAs_zero h).2 a ha).1
def orbZ (g : List O) (m : Int) (l : List Atm) : List (Atm × List V) := l.map fun a => (a, orbV g m a.p.x)
theorem orbZ_ok {g : List O} {l : List Atm} (hg : chkG g = 0) (hA : chkA l = 0) : OkW (m0A l) (orbZ g (m0A l) l) :=
  ⟨(chkA_ok hA).m, by simp [orbZ]; exact (chkA_ok hA).len, fun x hx => by
    obtain ⟨a, ha, rfl⟩ := List.mem_map.1 hx
    exact ⟨chkA_heavy hA a ha, Nat.le_trans orbV_len (chkG_ok hg).len⟩⟩
theorem orbZ_a (g : List O) (m : Int) (l : List Atm) : atE1 (orbZ g m l) = eAs l := by simp [orbZ, atE1, eAs]
theorem orbZ_o (g : List O) (m : Int) (l : List Atm) : orE1 m (orbZ g m l) = orbsE g m l := by simp [orbZ, orE1, orbsE]
theorem orbZ_r {g : List O} {l : List Atm} (hg : chkG g = 0) (hA : chkA l = 0) : orE1 (m0A l) (orbZ g (m0A l) l) = orbsR g (m0A l) l := by
  rw [orbZ_o]
  unfold orbsE orbsR
  refine List.map_congr_left fun a ha => ?_
  rw [orb_eq (chkG_ok hg).ok (chkA_ok hA).m ((chkA_ok hA).a a ha).r]
def wavA (g : List O) (l : List Atm) (h : V) : (Nat × Nat) × Int :=
  bif errX g l h != 0 then ((0, 0), errX g l h) else (waveF h (m0A l) (orbZ g (m0A l) l) (0, 0), 0)
def SD7 : PSpec := espec (fun x : List O × List Atm × V => [.rd (eOs x.1), .rd (eAs x.2.1), .agg (eV x.2.2)]) (fun x => x.2.1.length ≤ 4611686018427387904)
  (fun x => Er (Cp (wavA x.1 x.2.1 x.2.2).1) (wavA x.1 x.2.1 x.2.2).2)
theorem sD7 : SoundA PR GL 7 SD7 := mkA [e13, e14, e15, e12c, e16, eD27] 0 Tryz.func7 (by kernel_rfl) (by kernel_rfl) fun args K hk => by
  obtain ⟨⟨g, l, h⟩, rfl, hlen, hk⟩ := hk
  replace hlen : l.length ≤ 4611686018427387904 := hlen
  replace hk : K (Er (Cp (wavA g l h).1) (wavA g l h).2) := hk
  unfold wavA at hk
  have main : ∀ ix : Int, idxV h = ix → (∀ he : errX g l h ≠ 0, K (Er (Cp (0, 0)) (errX g l h))) ∧ (errX g l h = 0 → K (Er (Cp (waveF h (m0A l) (orbZ g (m0A l) l) (0, 0))) 0)) := fun _ _ => by
    refine ⟨fun he => ?_, fun he => ?_⟩
    · have : (errX g l h != 0) = true := by simpa using he
      rw [this, cond_true] at hk; exact hk
    · rw [he] at hk; exact hk
  conv => whnf
  refine ⟨g, rfl, trivial, ?_⟩
  conv => whnf
  refine ⟨l, rfl, hlen, ?_⟩
  conv => whnf
  refine pickB_of (fun hb => ?_) (fun hb => ?_)
  · have hix : idxV h = 1 := by unfold idxV; rw [hb]; rfl
    obtain ⟨hk1, hk2⟩ := main 1 hix
    clear main hk
    conv => whnf
    refine And.intro (Nat.le_refl _) ?_
    conv => whnf
    refine pickB_of (fun he => ?_) (fun he => ?_)
    · have he' : errX g l h ≠ 0 := by
        have : (errX g l h != 0) = true := by unfold errX; rw [hix]; exact he
        simpa using this
      have hk := hk1 he'
      rw [errX, hix] at hk
      conv => whnf
      exact hk
    · exfalso
      have he' : least3 (chkG g) (chkA l) 1 = 0 := by
        have : (least3 (chkG g) (chkA l) 1 != 0) = false := he
        simpa using this
      cases (least3_zero he').2.2
  · have hix : idxV h = 0 := by unfold idxV; rw [hb]; rfl
    obtain ⟨hk1, hk2⟩ := main 0 hix
    clear main hk
    conv => whnf
    refine And.intro (Nat.le_refl _) ?_
    conv => whnf
    refine pickB_of (fun he => ?_) (fun he => ?_)
    · have he' : errX g l h ≠ 0 := by
        have : (errX g l h != 0) = true := by unfold errX; rw [hix]; exact he
        simpa using this
      have hk := hk1 he'
      rw [errX, hix] at hk
      conv => whnf
      exact hk
    · have he2 : errX g l h = 0 := by
        have : (errX g l h != 0) = false := by unfold errX; rw [hix]; exact he
        simpa using this
      obtain ⟨hg, hA, _⟩ := least3_zero he2
      have hk := hk2 he2
      have hL := chkA_ok hA
      have hW := orbZ_ok hg hA
      have e1 := orbZ_a g (m0A l) l
      have e2 := orbZ_o g (m0A l) l
      clear he hb hix he2 hk1 hk2
      conv => whnf
      refine ⟨(g, l, m0A l), rfl, ⟨hg, hL.m, hL.a, hL.len⟩, ?_⟩
      conv => whnf
      refine ⟨(orbZ g (m0A l) l, m0A l, h), ?_, hW, ?_⟩
      · show [LV.rd (eAs l), LV.rd (orbsE g (m0A l) l), LV.agg (eV h)] = [LV.rd (atE1 (orbZ g (m0A l) l)), LV.rd (orE1 (m0A l) (orbZ g (m0A l) l)), LV.agg (eV h)]
        rw [e1, e2]
      conv => whnf
      exact hk
noncomputable def eD7 : Ent := entA sD7 espec_fun
theorem sD8 : SoundA PR GL 8 SD7 := mkA [e19, e20, eD30] 0 Tryz.func8 (by kernel_rfl) (by kernel_rfl) fun args K hk => by
  obtain ⟨⟨g, l, h⟩, rfl, hlen, hk⟩ := hk
  replace hlen : l.length ≤ 4611686018427387904 := hlen
  replace hk : K (Er (Cp (wavA g l h).1) (wavA g l h).2) := hk
  unfold wavA at hk
  have hx := errX_eq g l h
  conv => whnf
  refine And.intro (Nat.le_refl _) ?_
  conv => whnf
  refine ⟨(g, l, h), rfl, hlen, ?_⟩
  conv => whnf
  refine pickB_of (fun he => ?_) (fun he => ?_)
  · have he' : (chkR g l h != 0) = true := he
    rw [hx, he', cond_true] at hk
    conv => whnf
    exact hk
  · have he' : (chkR g l h != 0) = false := he
    rw [hx, he', cond_false] at hk
    have he2 : chkR g l h = 0 := by simpa using he'
    rw [he2] at hx
    obtain ⟨hg, hA, _⟩ := least3_zero hx
    have hL := chkA_ok hA
    have hW := orbZ_ok hg hA
    have e1 := orbZ_a g (m0A l) l
    have e2 := orbZ_r hg hA
    have hgl := (chkG_ok hg).len
    clear he he' he2 hx
    conv => whnf
    refine ⟨(g, l, m0A l), rfl, ⟨hgl, hL.m, hL.a, hL.len⟩, ?_⟩
    conv => whnf
    refine ⟨(orbZ g (m0A l) l, m0A l, h), ?_, hW, ?_⟩
    · show [LV.rd (eAs l), LV.rd (orbsR g (m0A l) l), LV.agg (eV h)] = [LV.rd (atE1 (orbZ g (m0A l) l)), LV.rd (orE1 (m0A l) (orbZ g (m0A l) l)), LV.agg (eV h)]
      rw [e1, e2]
    conv => whnf
    exact hk
noncomputable def eD8 : Ent := entA sD8 espec_fun

/-! ### Phases -/
def phA (h : V) (p : Pt) : Int × Int := bif bad3 h 512 then (0, 1) else bif formP p then (phF h p.m p.x, 0) else (0, 3)
def SD10 : PSpec := espec (fun x : V × Pt => [.agg (eV x.1), .agg (ePt x.2)]) (fun _ => True) (fun x => Er (I (phA x.1 x.2).1) (phA x.1 x.2).2)
theorem sD10 : SoundA PR GL 10 SD10 := mkA [e15, e33, e12b, e17] 0 Tryz.func10 (by kernel_rfl) (by kernel_rfl) fun args K hk => by
  obtain ⟨⟨h, p⟩, rfl, _, hk⟩ := hk
  replace hk : K (Er (I (phA h p).1) (phA h p).2) := hk
  unfold phA at hk
  conv => whnf
  refine pickB_of (fun hb => ?_) (fun hb => ?_)
  · rw [hb, cond_true] at hk
    conv => whnf
    refine pickB_of (fun hf => ?_) (fun hf => ?_)
    · conv => whnf
      exact hk
    · conv => whnf
      refine And.intro (Nat.le_refl _) ?_
      conv => whnf
      exact hk
  · rw [hb, cond_false] at hk
    conv => whnf
    refine pickB_of (fun hf => ?_) (fun hf => ?_)
    · replace hf : formP p = true := hf
      have hp := (formP_iff.1 hf).1.pos
      have hm : p.m ≠ 0 := by omega
      rw [hf, cond_true] at hk
      conv => whnf
      refine ⟨(h, p.m, p.x), rfl, hm, ?_⟩
      conv => whnf
      exact hk
    · rw [hf, cond_false] at hk
      conv => whnf
      refine And.intro (Nat.le_refl _) ?_
      conv => whnf
      exact hk
noncomputable def eD10 : Ent := entA sD10 espec_fun
theorem sD11 : SoundA PR GL 11 SD10 := mkA [e37, e64, e21] 0 Tryz.func11 (by kernel_rfl) (by kernel_rfl) fun args K hk => by
  obtain ⟨⟨h, p⟩, rfl, _, hk⟩ := hk
  replace hk : K (Er (I (phA h p).1) (phA h p).2) := hk
  unfold phA at hk
  rw [← placeR_eq] at hk
  conv => whnf
  refine pickB_of (fun hb => ?_) (fun hb => ?_)
  · rw [hb, cond_true] at hk
    conv => whnf
    exact hk
  · rw [hb, cond_false] at hk
    conv => whnf
    refine pickB_of (fun h1 => ?_) (fun h1 => ?_)
    · conv => whnf
      refine pickB_of (fun h2 => ?_) (fun h2 => ?_)
      · have hf : placeR p = true := by unfold placeR; rw [show is4n p.m = true from h1, show eqV p.x (modV p.x p.m) = true from h2]; rfl
        have hm : p.m ≠ 0 := by rw [placeR_eq] at hf; have := (formP_iff.1 hf).1.pos; omega
        rw [hf, cond_true] at hk
        conv => whnf
        refine ⟨(h, p.m, p.x), rfl, hm, ?_⟩
        conv => whnf
        exact hk
      · have hf : placeR p = false := by unfold placeR; rw [show is4n p.m = true from h1, show eqV p.x (modV p.x p.m) = false from h2]; rfl
        rw [hf, cond_false] at hk
        conv => whnf
        exact hk
    · have hf : placeR p = false := by unfold placeR; rw [show is4n p.m = false from h1]; rfl
      rw [hf, cond_false] at hk
      conv => whnf
      exact hk
noncomputable def eD11 : Ent := entA sD11 espec_fun
end E
end Go.Proofs.YtjhognibibmeiaaGreatDoor
end

section
set_option linter.unusedVariables false
set_option maxRecDepth 100000
set_option maxHeartbeats 8000000
namespace Go.Proofs.YtjhognibibmeiaaGreatDoor
namespace E
open Go Go.RowKit

def h100 : V := ⟨1, 0, 0⟩
def x12 : V := ⟨12, 0, 0⟩
def atW : Atm := ⟨⟨24, x12⟩, 6, 2⟩
def atE : Atm := ⟨⟨24, x12⟩, 6, 0⟩
theorem one_ok : OkO oneO := ⟨by kernel_rfl, by kernel_rfl, by kernel_rfl⟩
theorem gone_ok : ∀ o ∈ [oneO], OkO o := fun o ho => by rw [List.mem_singleton.1 ho]; exact one_ok
theorem x12_ok : Rng 24 x12 := ⟨by decide, by decide, by decide, by decide, by decide, by decide⟩
theorem orb12 : orbV [oneO] 24 x12 = [x12] := by
  rw [orb_eq gone_ok .a x12_ok]
  kernel_rfl
theorem chk1 : chkG [oneO] = 0 := by rw [chkG_eq]; kernel_rfl
def oneE : List (List LV) := [eO oneO]

def S9 : PSpec := p0 (LV.rd oneE)
theorem s9 : SoundA PR GL 21 S9 := mkA [e24] 0 Tryz.func21 (by kernel_rfl) (by kernel_rfl) fun args K hk => by
  have hk1 := p0_inv hk
  clear hk
  obtain ⟨rfl, hk⟩ := hk1
  conv => whnf
  refine And.intro (Nat.le_refl _) ?_
  conv => whnf
  exact hk
noncomputable def e9 : Ent := entA s9 (pspec_fun _)
def S10 : PSpec := p3 encI encI encI fun a b c => LV.agg (eAt ⟨⟨24, ⟨a, 0, 0⟩⟩, b, c⟩)
theorem s10 : SoundA PR GL 17 S10 := mkA [] 0 Tryz.func17 (by kernel_rfl) (by kernel_rfl) fun args K hk => by
  have hk1 := p3_inv hk
  clear hk
  obtain ⟨a, b, c, rfl, hk⟩ := hk1
  conv => whnf
  exact hk
noncomputable def e10 : Ent := entA s10 (pspec_fun _)

/-! ### Its rounded wave -/
def SD7a : PSpec := espec (fun _ : Unit => [.rd oneE, .rd [eAt atW], .agg (eV h100)]) (fun _ => True) (fun _ => Er (Cx 13841813454723219456 13835058055282163712) 0)
theorem wav12 : waveF h100 24 [(atW, [x12])] (0, 0) = (13841813454723219456, 13835058055282163712) := by kernel_rfl
theorem sD7a : SoundA PR GL 7 SD7a := sD7.mono fun args K hk => by
  obtain ⟨_, rfl, _, hk⟩ := hk
  refine ⟨([oneO], [atW], h100), rfl, by decide, ?_⟩
  show K (Er (Cp (wavA [oneO] [atW] h100).1) (wavA [oneO] [atW] h100).2)
  have h1 : errX [oneO] [atW] h100 = 0 := by rw [errX_eq]; kernel_rfl
  have h2 : wavA [oneO] [atW] h100 = ((13841813454723219456, 13835058055282163712), 0) := by
    unfold wavA
    rw [h1]
    show (waveF h100 24 [(atW, orbV [oneO] 24 x12)] (0, 0), (0 : Int)) = _
    rw [orb12, wav12]
  rw [h2]
  exact hk
noncomputable def eD7a : Ent := entA sD7a espec_fun

/-! ### Its exact one -/
def S5a : PSpec := espec (fun _ : Unit => [.rd oneE, .rd [eAt atE], .agg (eV h100)]) (fun _ => True) (fun _ => Er (.agg [I 24, .rd (eNs ring6)]) 0)
theorem s5a : SoundA PR GL 18 S5a := s5.mono fun args K hk => by
  obtain ⟨_, rfl, _, hk⟩ := hk
  refine ⟨([oneO], [atE], h100), rfl, by decide, ?_⟩
  show K (bif errX [oneO] [atE] h100 != 0 then Er (.agg [I 0, .rd []]) (errX [oneO] [atE] h100) else Er (.agg [I (m0A [atE]), .rd (eNs (exC [oneO] (m0A [atE]) h100 [atE]))]) 0)
  have h1 : errX [oneO] [atE] h100 = 0 := by rw [errX_eq]; kernel_rfl
  have h2 : exC [oneO] 24 h100 [atE] = ring6 := by
    rw [← exC_eq gone_ok .a h100 (l := [atE]) (fun a ha => by rw [List.mem_singleton.1 ha]; exact ⟨rfl, x12_ok⟩)]
    kernel_rfl
  rw [h1]
  show K (Er (.agg [I 24, .rd (eNs (exC [oneO] 24 h100 [atE]))]) 0)
  rw [h2]
  exact hk
noncomputable def e5d : Ent := entD s5a
def S4 : PSpec := p0 (Bo true)
theorem s4 : SoundA PR GL 6 S4 := mkA [e9, e10, eD7a, e5d, e11a, e7] 0 Tryz.func6 (by kernel_rfl) (by kernel_rfl) fun args K hk => by
  have hk1 := p0_inv hk
  clear hk
  obtain ⟨rfl, hk⟩ := hk1
  conv => whnf
  refine And.intro (Nat.le_refl _) ?_
  conv => whnf
  refine ⟨(), rfl, trivial, ?_⟩
  conv => whnf
  refine And.intro (Nat.le_refl _) ?_
  conv => whnf
  refine ⟨(), rfl, trivial, ?_⟩
  conv => whnf
  refine ⟨(), rfl, trivial, ?_⟩
  conv => whnf
  refine ⟨((24, ring6), (24, ring6)), rfl, (by decide), ?_⟩
  conv => whnf
  exact hk
noncomputable def e4 : Ent := entA s4 (pspec_fun _)

/-! ### The law of waves -/
def SL3 : PSpec := espec (fun x : List O × List Atm × V × Pt => [.rd (eOs x.1), .rd (eAs x.2.1), .agg (eV x.2.2.1), .agg (ePt x.2.2.2)]) (fun x => x.2.1.length ≤ 4611686018427387904) (fun _ => Bo true)
theorem sL3 : SoundA PR GL 3 SL3 := mkA [e4, eD7, eD8, eD9, eD10, eD11] 0 Tryz.func3 (by kernel_rfl) (by kernel_rfl) fun args K hk => by
  obtain ⟨⟨g, l, h, p⟩, rfl, hlen, hk⟩ := hk
  conv => whnf
  refine ⟨(g, l, h), rfl, hlen, ?_⟩
  conv => whnf
  refine ⟨(g, l, h), rfl, hlen, ?_⟩
  conv => whnf
  refine ⟨(wavA g l h).1, rfl, trivial, ?_⟩
  conv => whnf
  refine pickB_no (show ((wavA g l h).2 != (wavA g l h).2) = false by simp) ?_
  conv => whnf
  refine ⟨(h, p), rfl, trivial, ?_⟩
  conv => whnf
  refine ⟨(h, p), rfl, trivial, ?_⟩
  conv => whnf
  refine pickB_yes (show ((phA h p).1 == (phA h p).1) = true by simp) ?_
  conv => whnf
  refine pickB_yes (show ((phA h p).2 == (phA h p).2) = true by simp) ?_
  conv => whnf
  exact hk
end E
end Go.Proofs.YtjhognibibmeiaaGreatDoor
end
