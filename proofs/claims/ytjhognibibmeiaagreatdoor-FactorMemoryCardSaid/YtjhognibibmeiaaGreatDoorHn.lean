/-
  THE FUNCTIONS, fourteenth part: the sort of places, by the library's contract.
-/
import Derived.Shelf.SlSortCmp.NoneTotal
import Derived.Ground.SlsfProg
import Derived.Test.YtjhognibibmeiaaGreatDoorHm
set_option linter.unusedVariables false
set_option maxRecDepth 100000
set_option maxHeartbeats 4000000
namespace Go.Proofs
open Go.Shelf
def Tryz.sortPt_ren : Go.Shelf.Ren := ⟨fun | 6 => 77 | 15 => 100 | 14 => 99 | 28 => 125 | 29 => 126 | 20 => 117 | 21 => 118 | 22 => 119 | 23 => 120 | 24 => 121 | 25 => 122 | 26 => 123 | 27 => 124 | 46 => 131 | 47 => 132 | 48 => 133 | 49 => 134 | 50 => 135 | 57 => 137 | n => n, fun | 22 => 85 | 24 => 27 | 25 => 129 | 3 => 3 | 39 => 134 | 0 => 0 | 53 => 168 | 55 => 113 | 4 => 4 | 46 => 162 | 45 => 161 | 50 => 99 | 5 => 5 | 9 => 9 | 66 => 171 | 70 => 175 | 76 => 178 | 77 => 38 | n => n, fun | n => n⟩
theorem Tryz.sortPt : Go.Proofs.SlLaysF0.n6 Tryz.prog Tryz.sortPt_ren := {
  mixed := by kernel_rfl
  f6 := ⟨Tryz.f77.name, by decide, Tryz.func77.trans (congrArg some (by kernel_rfl))⟩
  f14 := ⟨Tryz.f99.name, by decide, Tryz.func99.trans (congrArg some (by kernel_rfl))⟩
  f15 := Tryz.func100.trans (congrArg some (by kernel_rfl))
  f20 := ⟨Tryz.f117.name, by decide, Tryz.func117.trans (congrArg some (by kernel_rfl))⟩
  f21 := ⟨Tryz.f118.name, by decide, Tryz.func118.trans (congrArg some (by kernel_rfl))⟩
  f22 := ⟨Tryz.f119.name, by decide, Tryz.func119.trans (congrArg some (by kernel_rfl))⟩
  f23 := ⟨Tryz.f120.name, by decide, Tryz.func120.trans (congrArg some (by kernel_rfl))⟩
  f24 := ⟨Tryz.f121.name, by decide, Tryz.func121.trans (congrArg some (by kernel_rfl))⟩
  f25 := ⟨Tryz.f122.name, by decide, Tryz.func122.trans (congrArg some (by kernel_rfl))⟩
  f26 := ⟨Tryz.f123.name, by decide, Tryz.func123.trans (congrArg some (by kernel_rfl))⟩
  f27 := ⟨Tryz.f124.name, by decide, Tryz.func124.trans (congrArg some (by kernel_rfl))⟩
  f28 := Tryz.func125.trans (congrArg some (by kernel_rfl))
  f29 := Tryz.func126.trans (congrArg some (by kernel_rfl))
  f46 := ⟨Tryz.f131.name, by decide, Tryz.func131.trans (congrArg some (by kernel_rfl))⟩
  f47 := Tryz.func132.trans (congrArg some (by kernel_rfl))
  f48 := Tryz.func133.trans (congrArg some (by kernel_rfl))
  f49 := ⟨Tryz.f134.name, by decide, Tryz.func134.trans (congrArg some (by kernel_rfl))⟩
  f50 := ⟨Tryz.f135.name, by decide, Tryz.func135.trans (congrArg some (by kernel_rfl))⟩
  f57 := ⟨Tryz.f137.name, by decide, Tryz.func137.trans (congrArg some (by kernel_rfl))⟩
  t0 := Tryz.underlying0
  a0 := Tryz.isAgg0
  z0 := Tryz.sizeOf0
  v0 := Tryz.zeroValue0
  t3 := Tryz.underlying3
  a3 := Tryz.isAgg3
  z3 := Tryz.sizeOf3
  v3 := Tryz.zeroValue3
  t4 := Tryz.underlying4
  a4 := Tryz.isAgg4
  z4 := Tryz.sizeOf4
  v4 := Tryz.zeroValue4
  t5 := Tryz.underlying5
  a5 := Tryz.isAgg5
  z5 := Tryz.sizeOf5
  v5 := Tryz.zeroValue5
  t9 := Tryz.underlying9
  a9 := Tryz.isAgg9
  z9 := Tryz.sizeOf9
  v9 := Tryz.zeroValue9
  t22 := Tryz.underlying85
  a22 := Tryz.isAgg85
  z22 := Tryz.sizeOf85
  v22 := Tryz.zeroValue85
  t25 := Tryz.underlying129
  a25 := Tryz.isAgg129
  z25 := Tryz.sizeOf129
  v25 := Tryz.zeroValue129
  t39 := Tryz.underlying134
  a39 := Tryz.isAgg134
  z39 := Tryz.sizeOf134
  v39 := Tryz.zeroValue134
  t45 := Tryz.underlying161
  a45 := Tryz.isAgg161
  z45 := Tryz.sizeOf161
  v45 := Tryz.zeroValue161
  t46 := Tryz.underlying162
  a46 := Tryz.isAgg162
  z46 := Tryz.sizeOf162
  v46 := Tryz.zeroValue162
  t50 := Tryz.underlying99
  a50 := Tryz.isAgg99
  z50 := Tryz.sizeOf99
  v50 := Tryz.zeroValue99
  t53 := Tryz.underlying168
  a53 := Tryz.isAgg168
  z53 := Tryz.sizeOf168
  v53 := Tryz.zeroValue168
  t55 := Tryz.underlying113
  a55 := Tryz.isAgg113
  z55 := Tryz.sizeOf113
  v55 := Tryz.zeroValue113
  t66 := Tryz.underlying171
  a66 := Tryz.isAgg171
  z66 := Tryz.sizeOf171
  v66 := Tryz.zeroValue171
  t70 := Tryz.underlying175
  a70 := Tryz.isAgg175
  z70 := Tryz.sizeOf175
  v70 := Tryz.zeroValue175
  t76 := Tryz.underlying178
  a76 := Tryz.isAgg178
  z76 := Tryz.sizeOf178
  v76 := Tryz.zeroValue178
  t77 := Tryz.underlying38
  a77 := Tryz.isAgg38
  z77 := Tryz.sizeOf38
  v77 := Tryz.zeroValue38 }
end Go.Proofs
namespace Go.Proofs.YtjhognibibmeiaaGreatDoor
namespace E
open Go Go.RowKit Go.Sort

abbrev VR (m : Int) := {v : V // Rng m v}
def enc4 (m : Int) (v : VR m) : List Value := [.int .i64 m, .int .i64 v.1.x, .int .i64 v.1.y, .int .i64 v.1.z]
def cf4 (m : Int) (a b : VR m) : Int := cmpV a.1 b.1 0
theorem cmpV_lt {a b : V} : cmpV a b 0 < 0 ↔ a.x < b.x ∨ (a.x = b.x ∧ (a.y < b.y ∨ (a.y = b.y ∧ a.z < b.z))) := by
  unfold cmpV cmp2
  simp only [Bool.cond_eq_ite, decide_eq_true_eq]
  split
  · constructor
    · intro _; omega
    · intro _; omega
  · split
    · constructor
      · intro h; omega
      · intro h; omega
    · split
      · constructor
        · intro _; omega
        · intro _; omega
      · split
        · constructor
          · intro h; omega
          · intro h; omega
        · split
          · constructor
            · intro _; omega
            · intro _; omega
          · split
            · constructor
              · intro h; omega
              · intro h; omega
            · constructor
              · intro h; omega
              · intro h; omega
theorem V.ext' {a b : V} (hx : a.x = b.x) (hy : a.y = b.y) (hz : a.z = b.z) : a = b := by
  obtain ⟨a1, a2, a3⟩ := a
  obtain ⟨b1, b2, b3⟩ := b
  simp only at hx hy hz
  rw [hx, hy, hz]
theorem cmpV_tot {a b : V} (h1 : ¬ cmpV a b 0 < 0) (h2 : ¬ cmpV b a 0 < 0) : a = b := by
  rw [cmpV_lt] at h1 h2
  exact V.ext' (by omega) (by omega) (by omega)
theorem swo4 (m : Int) : SWO (ltOf (cf4 m)) where
  irrefl x := by simp only [ltOf, cf4, decide_eq_false_iff_not, cmpV_lt]; omega
  trans x y z h1 h2 := by simp only [ltOf, cf4, decide_eq_true_eq, cmpV_lt] at *; omega
  ntrans x y z h1 h2 := by simp only [ltOf, cf4, decide_eq_false_iff_not, cmpV_lt] at *; omega
def sortV (l : List V) : List V := l.mergeSort fun a b => !decide (cmpV b a 0 < 0)

section
variable {G : Gh} {w w' : World} {h : List Blk}
/-- Blocks laid behind, that nobody names. -/
theorem HRel.grown (hh : HRel G w h) (os : Array Obj) : HRel G (grow w os) h ∧ Ext G.n G w G (grow w os) := by
  have hb : ∀ b, b < w.heap.size → (grow w os).heap[b]? = w.heap[b]? := fun b hb => by
    show (w.heap ++ os)[b]? = _
    rw [Array.getElem?_append, if_pos hb]
  have hs : w.heap.size ≤ (grow w os).heap.size := by
    show _ ≤ (w.heap ++ os).size
    simp
  have he : Ext G.n G w G (grow w os) := ⟨rfl, rfl, rfl, Nat.le_refl _, hs, fun b h _ => hb b h, fun b h => .inl h, fun b h => h, fun b h => .inl h, fun _ _ => rfl, Nat.le_refl _, Nat.le_refl _⟩
  refine ⟨⟨hh.n, fun b h => ⟨Nat.lt_of_lt_of_le (hh.R b h).1 hs, (hh.R b h).2⟩, fun b h => Nat.lt_of_lt_of_le (hh.own b h) hs, fun id bk hbk => ?_, hh.inj⟩, he⟩
  exact (hh.blk id bk hbk).mono hh (hh.lt hbk) he (fun hl => hb _ (hh.own _ ((hh.blk id bk hbk).own hl))) (fun _ h => h)
end

theorem world_grown {w w' : World} (hb : Below w.heap.size w w') (hd : w.drawn ≤ w'.drawn) : ∃ q os, w' = grow (w.drewN q) os := by
  refine ⟨w'.drawn - w.drawn, w'.heap.extract w.heap.size w'.heap.size, ?_⟩
  obtain ⟨heap, tape, drawn, os, output⟩ := w'
  obtain ⟨h1, h2, h3, h4, h5⟩ := hb
  simp only at h1 h2 h3 h4 h5 hd
  subst h1 h2 h3
  have e1 : w.drawn + (drawn - w.drawn) = drawn := by omega
  have e2 : w.heap ++ heap.extract w.heap.size heap.size = heap := by
    apply Array.ext_getElem?
    intro i
    rw [Array.getElem?_append]
    split
    · rename_i hi; exact (h5 i hi).symm
    · rename_i hi
      rw [Array.getElem?_extract]
      split
      · have : w.heap.size + (i - w.heap.size) = i := by omega
        rw [this]
      · rw [Array.getElem?_eq_none]
        omega
  simp only [grow, World.drewN, e1, e2]

def S55 : Spec := fun args h K => ∃ (m : Int) (l : List V) (id : Nat) (cap : Option Nat), Is4 m ∧ (∀ v ∈ l, Rng m v) ∧ l.length < 4611686018427387904 ∧ args = [.sl id 0 l.length cap, .clo 78 []] ∧
  (∃ ex, h[id]? = some (.row 4 ex (l.map fun v => ePt ⟨m, v⟩))) ∧ K (.tup []) (h.set id (.row 4 false ((sortV l).map fun v => ePt ⟨m, v⟩)))

theorem cmp56 {m : Int} (h4 : Is4 m) [Inhabited (VR m)] {G : Gh} {w : World} {h : List Blk} (hh : HRel G w h) (hg : GlOK GL G w) {b : Nat} (hb : G.own b) (size : Nat) :
    CmpLays PR 78 #[] (enc4 m) 4 (cf4 m) b 0 size w := by
  intro n os dk hs x y
  have hsame : ∀ k, k ≠ b → k < w.heap.size → (sortWorldK (enc4 m) 4 w b 0 n dk os).heap[k]? = w.heap[k]? := by
    intro k hk hlt
    show ((w.heap.modify b _) ++ os)[k]? = _
    rw [Array.getElem?_append, if_pos (by simpa using hlt), Array.getElem?_modify, if_neg (Ne.symm hk)]
  have hsz : w.heap.size ≤ (sortWorldK (enc4 m) 4 w b 0 n dk os).heap.size := by
    show _ ≤ ((w.heap.modify b _) ++ os).size
    simp
  have hRb : ∀ k, G.R k → k ≠ b := fun k hk e => (hh.R k hk).2 (e ▸ hb)
  have hrun := s56 [.agg (ePt ⟨m, x.1⟩), .agg (ePt ⟨m, y.1⟩)] (fun r => r = I (cf4 m x y)) ⟨(m, x.1, y.1), rfl, ⟨h4, x.2, y.2⟩, rfl⟩ G.R [.agg (enc4 m x).toArray, .agg (enc4 m y).toArray]
    (sortWorldK (enc4 m) 4 w b 0 n dk os) (fun k hk => Nat.lt_of_lt_of_le (hh.R k hk).1 hsz)
    (fun g cs hgc => ⟨(hg g cs hgc).1, fun j v hj => by
      obtain ⟨h1, h2⟩ := (hg g cs hgc).2 j v hj
      exact ⟨(World.cell?_of_block (a := ⟨g, j, none⟩) (hsame g (hRb g (hg g cs hgc).1) (hh.R g (hg g cs hgc).1).1)).trans h1, h2⟩⟩)
    (by
      have one : ∀ v : VR m, RRel G.R (sortWorldK (enc4 m) 4 w b 0 n dk os) (.agg (ePt ⟨m, v.1⟩)) (.agg (enc4 m v).toArray) := by
        intro v
        refine .agg (ePt ⟨m, v.1⟩) (enc4 m v) rfl fun i c x hc hx => ?_
        match i, hc, hx with
        | 0, hc, hx => cases hc; cases hx; exact .v _
        | 1, hc, hx => cases hc; cases hx; exact .v _
        | 2, hc, hx => cases hc; cases hx; exact .v _
        | 3, hc, hx => cases hc; cases hx; exact .v _
        | i + 4, hc, hx => cases hc
      refine ⟨rfl, fun i l v hl hv => ?_⟩
      match i, hl, hv with
      | 0, hl, hv => cases hl; cases hv; exact one x
      | 1, hl, hv => cases hl; cases hv; exact one y
      | i + 2, hl, hv => cases hl)
  rcases hrun with ⟨_, h2⟩ | ⟨v, w', h1, _⟩
  · refine h2.mono ?_
    rintro e w' ⟨v, rfl, r, rfl, hv, hbl, hdr⟩
    refine ⟨?_, world_grown hbl hdr⟩
    cases hv
    rfl
  · exfalso
    have he : (callFunc 78 [Value.agg (enc4 m x).toArray, Value.agg (enc4 m y).toArray].toArray).run PR (sortWorldK (enc4 m) 4 w b 0 n dk os) = .ok (.enter 78 _) _ := enters_of Tryz.func78 (by kernel_rfl) rfl _ _
    rw [he] at h1
    cases h1
end E
end Go.Proofs.YtjhognibibmeiaaGreatDoor
