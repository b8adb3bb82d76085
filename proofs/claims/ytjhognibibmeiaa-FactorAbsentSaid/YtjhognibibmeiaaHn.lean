/-
  THE FUNCTIONS, fourteenth part: the sort of places, by the library's contract.
-/
import Derived.Shelf.SlSortCmp.NoneTotal
import Derived.Ground.SlsfProg
import Derived.Test.YtjhognibibmeiaaHm
set_option linter.unusedVariables false
set_option maxRecDepth 100000
set_option maxHeartbeats 4000000
namespace Go.Proofs
open Go.Shelf
def Try.sortPt_ren : Go.Shelf.Ren := ⟨fun | 6 => 54 | 15 => 69 | 14 => 68 | 28 => 91 | 29 => 92 | 20 => 83 | 21 => 84 | 22 => 85 | 23 => 86 | 24 => 87 | 25 => 88 | 26 => 89 | 27 => 90 | 46 => 97 | 47 => 98 | 48 => 99 | 49 => 100 | 50 => 101 | 57 => 103 | n => n, fun | 22 => 62 | 24 => 42 | 25 => 107 | 3 => 3 | 39 => 111 | 0 => 0 | 53 => 143 | 55 => 124 | 4 => 4 | 46 => 137 | 45 => 136 | 50 => 82 | 5 => 5 | 9 => 9 | 66 => 146 | 70 => 150 | 76 => 153 | 77 => 154 | n => n, fun | n => n⟩
theorem Try.sortPt : Go.Proofs.SlLaysF0.n6 Try.prog Try.sortPt_ren := {
  mixed := by kernel_rfl
  f6 := ⟨Try.f54.name, by decide, Try.func54.trans (congrArg some (by kernel_rfl))⟩
  f14 := ⟨Try.f68.name, by decide, Try.func68.trans (congrArg some (by kernel_rfl))⟩
  f15 := Try.func69.trans (congrArg some (by kernel_rfl))
  f20 := ⟨Try.f83.name, by decide, Try.func83.trans (congrArg some (by kernel_rfl))⟩
  f21 := ⟨Try.f84.name, by decide, Try.func84.trans (congrArg some (by kernel_rfl))⟩
  f22 := ⟨Try.f85.name, by decide, Try.func85.trans (congrArg some (by kernel_rfl))⟩
  f23 := ⟨Try.f86.name, by decide, Try.func86.trans (congrArg some (by kernel_rfl))⟩
  f24 := ⟨Try.f87.name, by decide, Try.func87.trans (congrArg some (by kernel_rfl))⟩
  f25 := ⟨Try.f88.name, by decide, Try.func88.trans (congrArg some (by kernel_rfl))⟩
  f26 := ⟨Try.f89.name, by decide, Try.func89.trans (congrArg some (by kernel_rfl))⟩
  f27 := ⟨Try.f90.name, by decide, Try.func90.trans (congrArg some (by kernel_rfl))⟩
  f28 := Try.func91.trans (congrArg some (by kernel_rfl))
  f29 := Try.func92.trans (congrArg some (by kernel_rfl))
  f46 := ⟨Try.f97.name, by decide, Try.func97.trans (congrArg some (by kernel_rfl))⟩
  f47 := Try.func98.trans (congrArg some (by kernel_rfl))
  f48 := Try.func99.trans (congrArg some (by kernel_rfl))
  f49 := ⟨Try.f100.name, by decide, Try.func100.trans (congrArg some (by kernel_rfl))⟩
  f50 := ⟨Try.f101.name, by decide, Try.func101.trans (congrArg some (by kernel_rfl))⟩
  f57 := ⟨Try.f103.name, by decide, Try.func103.trans (congrArg some (by kernel_rfl))⟩
  t0 := Try.underlying0
  a0 := Try.isAgg0
  z0 := Try.sizeOf0
  v0 := Try.zeroValue0
  t3 := Try.underlying3
  a3 := Try.isAgg3
  z3 := Try.sizeOf3
  v3 := Try.zeroValue3
  t4 := Try.underlying4
  a4 := Try.isAgg4
  z4 := Try.sizeOf4
  v4 := Try.zeroValue4
  t5 := Try.underlying5
  a5 := Try.isAgg5
  z5 := Try.sizeOf5
  v5 := Try.zeroValue5
  t9 := Try.underlying9
  a9 := Try.isAgg9
  z9 := Try.sizeOf9
  v9 := Try.zeroValue9
  t22 := Try.underlying62
  a22 := Try.isAgg62
  z22 := Try.sizeOf62
  v22 := Try.zeroValue62
  t25 := Try.underlying107
  a25 := Try.isAgg107
  z25 := Try.sizeOf107
  v25 := Try.zeroValue107
  t39 := Try.underlying111
  a39 := Try.isAgg111
  z39 := Try.sizeOf111
  v39 := Try.zeroValue111
  t45 := Try.underlying136
  a45 := Try.isAgg136
  z45 := Try.sizeOf136
  v45 := Try.zeroValue136
  t46 := Try.underlying137
  a46 := Try.isAgg137
  z46 := Try.sizeOf137
  v46 := Try.zeroValue137
  t50 := Try.underlying82
  a50 := Try.isAgg82
  z50 := Try.sizeOf82
  v50 := Try.zeroValue82
  t53 := Try.underlying143
  a53 := Try.isAgg143
  z53 := Try.sizeOf143
  v53 := Try.zeroValue143
  t55 := Try.underlying124
  a55 := Try.isAgg124
  z55 := Try.sizeOf124
  v55 := Try.zeroValue124
  t66 := Try.underlying146
  a66 := Try.isAgg146
  z66 := Try.sizeOf146
  v66 := Try.zeroValue146
  t70 := Try.underlying150
  a70 := Try.isAgg150
  z70 := Try.sizeOf150
  v70 := Try.zeroValue150
  t76 := Try.underlying153
  a76 := Try.isAgg153
  z76 := Try.sizeOf153
  v76 := Try.zeroValue153
  t77 := Try.underlying154
  a77 := Try.isAgg154
  z77 := Try.sizeOf154
  v77 := Try.zeroValue154 }
end Go.Proofs
namespace Go.Proofs.Ytjhognibibmeiaa
namespace E
open Go Go.RowKit Go.Sort

abbrev VR (m : Int) := {v : V // Rng m v}
def enc4 (m : Int) (v : VR m) : List Value := [.int .i64 m, .int .i64 v.1.x, .int .i64 v.1.y, .int .i64 v.1.z]
def cf4 (m : Int) (a b : VR m) : Int := cmpV a.1 b.1 0
theorem cmpV_lt {a b : V} : cmpV a b 0 < 0 ↔ a.x < b.x ∨ (a.x = b.x ∧ (a.y < b.y ∨ (a.y = b.y ∧ a.z < b.z))) := by
  unfold cmpV cmp2
  simp only [Bool.cond_eq_ite, decide_eq_true_eq]
  split
  · constructor
    · intro _; omega
    · intro _; omega
  · split
    · constructor
      · intro h; omega
      · intro h; omega
    · split
      · constructor
        · intro _; omega
        · intro _; omega
      · split
        · constructor
          · intro h; omega
          · intro h; omega
        · split
          · constructor
            · intro _; omega
            · intro _; omega
          · split
            · constructor
              · intro h; omega
              · intro h; omega
            · constructor
              · intro h; omega
              · intro h; omega
theorem V.ext' {a b : V} (hx : a.x = b.x) (hy : a.y = b.y) (hz : a.z = b.z) : a = b := by
  obtain ⟨a1, a2, a3⟩ := a
  obtain ⟨b1, b2, b3⟩ := b
  simp only at hx hy hz
  rw [hx, hy, hz]
theorem cmpV_tot {a b : V} (h1 : ¬ cmpV a b 0 < 0) (h2 : ¬ cmpV b a 0 < 0) : a = b := by
  rw [cmpV_lt] at h1 h2
  exact V.ext' (by omega) (by omega) (by omega)
theorem swo4 (m : Int) : SWO (ltOf (cf4 m)) where
  irrefl x := by simp only [ltOf, cf4, decide_eq_false_iff_not, cmpV_lt]; omega
  trans x y z h1 h2 := by simp only [ltOf, cf4, decide_eq_true_eq, cmpV_lt] at *; omega
  ntrans x y z h1 h2 := by simp only [ltOf, cf4, decide_eq_false_iff_not, cmpV_lt] at *; omega
def sortV (l : List V) : List V := l.mergeSort fun a b => !decide (cmpV b a 0 < 0)

section
variable {G : Gh} {w w' : World} {h : List Blk}
/-- Blocks laid behind, that nobody names. -/
theorem HRel.grown (hh : HRel G w h) (os : Array Obj) : HRel G (grow w os) h ∧ Ext G.n G w G (grow w os) := by
  have hb : ∀ b, b < w.heap.size → (grow w os).heap[b]? = w.heap[b]? := fun b hb => by
    show (w.heap ++ os)[b]? = _
    rw [Array.getElem?_append, if_pos hb]
  have hs : w.heap.size ≤ (grow w os).heap.size := by
    show _ ≤ (w.heap ++ os).size
    simp
  have he : Ext G.n G w G (grow w os) := ⟨rfl, rfl, rfl, Nat.le_refl _, hs, fun b h _ => hb b h, fun b h => .inl h, fun b h => h, fun b h => .inl h, fun _ _ => rfl, Nat.le_refl _, Nat.le_refl _⟩
  refine ⟨⟨hh.n, fun b h => ⟨Nat.lt_of_lt_of_le (hh.R b h).1 hs, (hh.R b h).2⟩, fun b h => Nat.lt_of_lt_of_le (hh.own b h) hs, fun id bk hbk => ?_, hh.inj⟩, he⟩
  exact (hh.blk id bk hbk).mono hh (hh.lt hbk) he (fun hl => hb _ (hh.own _ ((hh.blk id bk hbk).own hl))) (fun _ h => h)
end

theorem world_grown {w w' : World} (hb : Below w.heap.size w w') (hd : w.drawn ≤ w'.drawn) : ∃ q os, w' = grow (w.drewN q) os := by
  refine ⟨w'.drawn - w.drawn, w'.heap.extract w.heap.size w'.heap.size, ?_⟩
  obtain ⟨heap, tape, drawn, os, output⟩ := w'
  obtain ⟨h1, h2, h3, h4, h5⟩ := hb
  simp only at h1 h2 h3 h4 h5 hd
  subst h1 h2 h3
  have e1 : w.drawn + (drawn - w.drawn) = drawn := by omega
  have e2 : w.heap ++ heap.extract w.heap.size heap.size = heap := by
    apply Array.ext_getElem?
    intro i
    rw [Array.getElem?_append]
    split
    · rename_i hi; exact (h5 i hi).symm
    · rename_i hi
      rw [Array.getElem?_extract]
      split
      · have : w.heap.size + (i - w.heap.size) = i := by omega
        rw [this]
      · rw [Array.getElem?_eq_none]
        omega
  simp only [grow, World.drewN, e1, e2]

def S55 : Spec := fun args h K => ∃ (m : Int) (l : List V) (id : Nat) (cap : Option Nat), Is4 m ∧ (∀ v ∈ l, Rng m v) ∧ l.length < 4611686018427387904 ∧ args = [.sl id 0 l.length cap, .clo 55 []] ∧
  (∃ ex, h[id]? = some (.row 4 ex (l.map fun v => ePt ⟨m, v⟩))) ∧ K (.tup []) (h.set id (.row 4 false ((sortV l).map fun v => ePt ⟨m, v⟩)))

theorem cmp56 {m : Int} (h4 : Is4 m) [Inhabited (VR m)] {G : Gh} {w : World} {h : List Blk} (hh : HRel G w h) (hg : GlOK GL G w) {b : Nat} (hb : G.own b) (size : Nat) :
    CmpLays PR 55 #[] (enc4 m) 4 (cf4 m) b 0 size w := by
  intro n os dk hs x y
  have hsame : ∀ k, k ≠ b → k < w.heap.size → (sortWorldK (enc4 m) 4 w b 0 n dk os).heap[k]? = w.heap[k]? := by
    intro k hk hlt
    show ((w.heap.modify b _) ++ os)[k]? = _
    rw [Array.getElem?_append, if_pos (by simpa using hlt), Array.getElem?_modify, if_neg (Ne.symm hk)]
  have hsz : w.heap.size ≤ (sortWorldK (enc4 m) 4 w b 0 n dk os).heap.size := by
    show _ ≤ ((w.heap.modify b _) ++ os).size
    simp
  have hRb : ∀ k, G.R k → k ≠ b := fun k hk e => (hh.R k hk).2 (e ▸ hb)
  have hrun := s56 [.agg (ePt ⟨m, x.1⟩), .agg (ePt ⟨m, y.1⟩)] (fun r => r = I (cf4 m x y)) ⟨(m, x.1, y.1), rfl, ⟨h4, x.2, y.2⟩, rfl⟩ G.R [.agg (enc4 m x).toArray, .agg (enc4 m y).toArray]
    (sortWorldK (enc4 m) 4 w b 0 n dk os) (fun k hk => Nat.lt_of_lt_of_le (hh.R k hk).1 hsz)
    (fun g cs hgc => ⟨(hg g cs hgc).1, fun j v hj => by
      obtain ⟨h1, h2⟩ := (hg g cs hgc).2 j v hj
      exact ⟨(World.cell?_of_block (a := ⟨g, j, none⟩) (hsame g (hRb g (hg g cs hgc).1) (hh.R g (hg g cs hgc).1).1)).trans h1, h2⟩⟩)
    (by
      have one : ∀ v : VR m, RRel G.R (sortWorldK (enc4 m) 4 w b 0 n dk os) (.agg (ePt ⟨m, v.1⟩)) (.agg (enc4 m v).toArray) := by
        intro v
        refine .agg (ePt ⟨m, v.1⟩) (enc4 m v) rfl fun i c x hc hx => ?_
        match i, hc, hx with
        | 0, hc, hx => cases hc; cases hx; exact .v _
        | 1, hc, hx => cases hc; cases hx; exact .v _
        | 2, hc, hx => cases hc; cases hx; exact .v _
        | 3, hc, hx => cases hc; cases hx; exact .v _
        | i + 4, hc, hx => cases hc
      refine ⟨rfl, fun i l v hl hv => ?_⟩
      match i, hl, hv with
      | 0, hl, hv => cases hl; cases hv; exact one x
      | 1, hl, hv => cases hl; cases hv; exact one y
      | i + 2, hl, hv => cases hl)
  rcases hrun with ⟨_, h2⟩ | ⟨v, w', h1, _⟩
  · refine h2.mono ?_
    rintro e w' ⟨v, rfl, r, rfl, hv, hbl, hdr⟩
    refine ⟨?_, world_grown hbl hdr⟩
    cases hv
    rfl
  · exfalso
    have he : (callFunc 55 [Value.agg (enc4 m x).toArray, Value.agg (enc4 m y).toArray].toArray).run PR (sortWorldK (enc4 m) 4 w b 0 n dk os) = .ok (.enter 55 _) _ := enters_of Try.func55 (by kernel_rfl) rfl _ _
    rw [he] at h1
    cases h1
end E
end Go.Proofs.Ytjhognibibmeiaa
