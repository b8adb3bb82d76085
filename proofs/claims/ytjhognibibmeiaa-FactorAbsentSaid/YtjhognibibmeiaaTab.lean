/-
  What the evaluator asks of this seat's types: closed facts of the loaded program. Printed by a program of this repo's own out of the seat's translation.
-/
import Derived.Test.YtjhognibibmeiaaProg
import Derived.Test.YtjhognibibmeiaaEn
import Derived.KernelRfl
set_option linter.unusedVariables false
namespace Go.Proofs.Ytjhognibibmeiaa
namespace E
open Go
def td2 : TD := ⟨.int .i64, 1, 8, [.int .i64 0]⟩
def td3 : TD := ⟨.int .i64, 1, 8, [.int .i64 0]⟩
def td4 : TD := ⟨.bool, 1, 1, [.bool false]⟩
def td5 : TD := ⟨.int .u8, 1, 1, [.int .u8 0]⟩
def td6 : TD := ⟨.int .u8, 1, 1, [.int .u8 0]⟩
def td9 : TD := ⟨.string, 1, 16, [.string ⟨#[]⟩]⟩
def td10 : TD := ⟨.string, 1, 16, [.string ⟨#[]⟩]⟩
def td11 : TD := ⟨.string, 1, 16, [.string ⟨#[]⟩]⟩
def td12 : TD := ⟨.int .u64, 1, 8, [.int .u64 0]⟩
def td21 : TD := ⟨.int .i32, 1, 4, [.int .i32 0]⟩
def td22 : TD := ⟨.slice 53, 1, 24, [.slice none 0 0]⟩
def td23 : TD := ⟨.slice 44, 1, 24, [.slice none 0 0]⟩
def td24 : TD := ⟨.array 3 3, 3, 24, [.int .i64 0, .int .i64 0, .int .i64 0]⟩
def td25 : TD := ⟨.array 3 3, 3, 24, [.int .i64 0, .int .i64 0, .int .i64 0]⟩
def td27 : TD := ⟨.int .i64, 1, 8, [.int .i64 0]⟩
def td30 : TD := ⟨.slice 3, 1, 24, [.slice none 0 0]⟩
def td31 : TD := ⟨.struct #[{ name := "M", type := 3, offset := 0, embedded := false, tag := "", pkgPath := "", byteOffset := 0 }, { name := "C", type := 30, offset := 1, embedded := false, tag := "", pkgPath := "", byteOffset := 8 }], 2, 32, [.int .i64 0, .slice none 0 0]⟩
def td32 : TD := ⟨.struct #[{ name := "M", type := 3, offset := 0, embedded := false, tag := "", pkgPath := "", byteOffset := 0 }, { name := "C", type := 30, offset := 1, embedded := false, tag := "", pkgPath := "", byteOffset := 8 }], 2, 32, [.int .i64 0, .slice none 0 0]⟩
def td37 : TD := ⟨.complex .f64, 1, 16, [.complex .f64 0 0]⟩
def td41 : TD := ⟨.struct #[{ name := "M", type := 3, offset := 0, embedded := false, tag := "", pkgPath := "", byteOffset := 0 }, { name := "X", type := 25, offset := 1, embedded := false, tag := "", pkgPath := "", byteOffset := 8 }], 4, 32, [.int .i64 0, .int .i64 0, .int .i64 0, .int .i64 0]⟩
def td42 : TD := ⟨.struct #[{ name := "M", type := 3, offset := 0, embedded := false, tag := "", pkgPath := "", byteOffset := 0 }, { name := "X", type := 25, offset := 1, embedded := false, tag := "", pkgPath := "", byteOffset := 8 }], 4, 32, [.int .i64 0, .int .i64 0, .int .i64 0, .int .i64 0]⟩
def td43 : TD := ⟨.struct #[{ name := "At", type := 42, offset := 0, embedded := false, tag := "", pkgPath := "", byteOffset := 0 }, { name := "Weight", type := 3, offset := 4, embedded := false, tag := "", pkgPath := "", byteOffset := 32 }, { name := "Odd", type := 3, offset := 5, embedded := false, tag := "", pkgPath := "", byteOffset := 40 }], 6, 48, [.int .i64 0, .int .i64 0, .int .i64 0, .int .i64 0, .int .i64 0, .int .i64 0]⟩
def td44 : TD := ⟨.struct #[{ name := "At", type := 42, offset := 0, embedded := false, tag := "", pkgPath := "", byteOffset := 0 }, { name := "Weight", type := 3, offset := 4, embedded := false, tag := "", pkgPath := "", byteOffset := 32 }, { name := "Odd", type := 3, offset := 5, embedded := false, tag := "", pkgPath := "", byteOffset := 40 }], 6, 48, [.int .i64 0, .int .i64 0, .int .i64 0, .int .i64 0, .int .i64 0, .int .i64 0]⟩
def td50 : TD := ⟨.array 3 24, 9, 72, [.int .i64 0, .int .i64 0, .int .i64 0, .int .i64 0, .int .i64 0, .int .i64 0, .int .i64 0, .int .i64 0, .int .i64 0]⟩
def td51 : TD := ⟨.array 3 24, 9, 72, [.int .i64 0, .int .i64 0, .int .i64 0, .int .i64 0, .int .i64 0, .int .i64 0, .int .i64 0, .int .i64 0, .int .i64 0]⟩
def td52 : TD := ⟨.struct #[{ name := "R", type := 51, offset := 0, embedded := false, tag := "", pkgPath := "", byteOffset := 0 }, { name := "T", type := 25, offset := 9, embedded := false, tag := "", pkgPath := "", byteOffset := 72 }], 12, 96, [.int .i64 0, .int .i64 0, .int .i64 0, .int .i64 0, .int .i64 0, .int .i64 0, .int .i64 0, .int .i64 0, .int .i64 0, .int .i64 0, .int .i64 0, .int .i64 0]⟩
def td53 : TD := ⟨.struct #[{ name := "R", type := 51, offset := 0, embedded := false, tag := "", pkgPath := "", byteOffset := 0 }, { name := "T", type := 25, offset := 9, embedded := false, tag := "", pkgPath := "", byteOffset := 72 }], 12, 96, [.int .i64 0, .int .i64 0, .int .i64 0, .int .i64 0, .int .i64 0, .int .i64 0, .int .i64 0, .int .i64 0, .int .i64 0, .int .i64 0, .int .i64 0, .int .i64 0]⟩
def td60 : TD := ⟨.slice 62, 1, 24, [.slice none 0 0]⟩
def td62 : TD := ⟨.slice 42, 1, 24, [.slice none 0 0]⟩
def td69 : TD := ⟨.struct #[{ name := "h", type := 3, offset := 0, embedded := false, tag := "", pkgPath := "facet/facetref15", byteOffset := 0 }, { name := "l", type := 3, offset := 1, embedded := false, tag := "", pkgPath := "facet/facetref15", byteOffset := 8 }], 2, 16, [.int .i64 0, .int .i64 0]⟩
def td70 : TD := ⟨.struct #[{ name := "h", type := 3, offset := 0, embedded := false, tag := "", pkgPath := "facet/facetref15", byteOffset := 0 }, { name := "l", type := 3, offset := 1, embedded := false, tag := "", pkgPath := "facet/facetref15", byteOffset := 8 }], 2, 16, [.int .i64 0, .int .i64 0]⟩
def td72 : TD := ⟨.slice 70, 1, 24, [.slice none 0 0]⟩
def td73 : TD := ⟨.slice 25, 1, 24, [.slice none 0 0]⟩
def td78 : TD := ⟨.slice 27, 1, 24, [.slice none 0 0]⟩
def td80 : TD := ⟨.map 53 3, 1, 8, [.map none]⟩
def td88 : TD := ⟨.slice 37, 1, 24, [.slice none 0 0]⟩
def td91 : TD := ⟨.float .f64, 1, 8, [.float .f64 0]⟩
def td111 : TD := ⟨.int .u64, 1, 8, [.int .u64 0]⟩
def td124 : TD := ⟨.int .u64, 1, 8, [.int .u64 0]⟩
def td125 : TD := ⟨.array 48 124, 48, 384, [.int .u64 0, .int .u64 0, .int .u64 0, .int .u64 0, .int .u64 0, .int .u64 0, .int .u64 0, .int .u64 0, .int .u64 0, .int .u64 0, .int .u64 0, .int .u64 0, .int .u64 0, .int .u64 0, .int .u64 0, .int .u64 0, .int .u64 0, .int .u64 0, .int .u64 0, .int .u64 0, .int .u64 0, .int .u64 0, .int .u64 0, .int .u64 0, .int .u64 0, .int .u64 0, .int .u64 0, .int .u64 0, .int .u64 0, .int .u64 0, .int .u64 0, .int .u64 0, .int .u64 0, .int .u64 0, .int .u64 0, .int .u64 0, .int .u64 0, .int .u64 0, .int .u64 0, .int .u64 0, .int .u64 0, .int .u64 0, .int .u64 0, .int .u64 0, .int .u64 0, .int .u64 0, .int .u64 0, .int .u64 0]⟩
def td136 : TD := ⟨.int .i64, 1, 8, [.int .i64 0]⟩
def td143 : TD := ⟨.int .u32, 1, 4, [.int .u32 0]⟩
def td146 : TD := ⟨.int .u64, 1, 8, [.int .u64 0]⟩
def td159 : TD := ⟨.array 0 16, 0, 0, []⟩
def td163 : TD := ⟨.int .u8, 1, 1, [.int .u8 0]⟩
def td164 : TD := ⟨.int .u8, 1, 1, [.int .u8 0]⟩
def td167 : TD := ⟨.int .i32, 1, 4, [.int .i32 0]⟩
def td168 : TD := ⟨.int .i32, 1, 4, [.int .i32 0]⟩
def tabL : List (Nat × TD) := [(2, td2), (3, td3), (4, td4), (5, td5), (6, td6), (9, td9), (10, td10), (11, td11), (12, td12), (21, td21), (22, td22), (23, td23), (24, td24), (25, td25), (27, td27), (30, td30), (31, td31), (32, td32), (37, td37), (41, td41), (42, td42), (43, td43), (44, td44), (50, td50), (51, td51), (52, td52), (53, td53), (60, td60), (62, td62), (69, td69), (70, td70), (72, td72), (73, td73), (78, td78), (80, td80), (88, td88), (91, td91), (111, td111), (124, td124), (125, td125), (136, td136), (143, td143), (146, td146), (159, td159), (163, td163), (164, td164), (167, td167), (168, td168)]
def findT : List (Nat × TD) → Nat → Option TD
  | [], _ => none
  | (k, d) :: r, n => match Nat.beq k n with | true => some d | false => findT r n
def tabT : Nat → Option TD := findT tabL
theorem findT_ok {P : Program} : ∀ {l : List (Nat × TD)}, (∀ e ∈ l, Facts P e.1 e.2) → ∀ t d, findT l t = some d → Facts P t d
  | [], _, t, d, h => by cases h
  | (k, e) :: r, hl, t, d, h => by
    unfold findT at h
    split at h
    · rename_i hk
      have := Nat.eq_of_beq_eq_true hk
      subst this
      injection h with h
      subst h
      exact hl (k, e) (by simp)
    · exact findT_ok (fun e he => hl e (by simp [he])) t d h
theorem Facts.closed {P : Program} {t : Nat} {d : TD} (hu : P.underlying t = some d.desc)
    (hi : (P.info? t).map (fun i => (i.size, i.bytes, i.zero.map fun z => z.cells.toList)) = some (d.sz, d.bytes, some d.zero))
    (hs : (P.info? t).map (fun i => match i.zero with | some (.agg _) => true | _ => false) = some d.isAgg)
    (h1 : d.zero.all (·.oneCell') = true) (hl : d.zero.length = d.sz) : Facts P t d := by
  refine ⟨hu, ?_, h1, hl, ?_⟩
  · cases hq : P.info? t with
    | none => rw [hq] at hi; cases hi
    | some i =>
      rw [hq] at hi
      simp only [Option.map_some, Option.some.injEq, Prod.mk.injEq] at hi
      obtain ⟨e1, e2, e3⟩ := hi
      cases hz : i.zero with
      | none => rw [hz] at e3; cases e3
      | some z =>
        rw [hz] at e3
        simp only [Option.map_some, Option.some.injEq] at e3
        exact ⟨i, z, rfl, e1, e2, hz, e3⟩
  · cases ha : d.isAgg with
    | true => exact .inl rfl
    | false =>
      refine .inr fun i hi' cs hz => ?_
      rw [hi', Option.map_some, hz, ha] at hs
      cases hs
theorem tf2 : Facts Try.prog 2 td2 := Facts.closed (by kernel_rfl) (by kernel_rfl) (by kernel_rfl) rfl rfl
theorem tf3 : Facts Try.prog 3 td3 := Facts.closed (by kernel_rfl) (by kernel_rfl) (by kernel_rfl) rfl rfl
theorem tf4 : Facts Try.prog 4 td4 := Facts.closed (by kernel_rfl) (by kernel_rfl) (by kernel_rfl) rfl rfl
theorem tf5 : Facts Try.prog 5 td5 := Facts.closed (by kernel_rfl) (by kernel_rfl) (by kernel_rfl) rfl rfl
theorem tf6 : Facts Try.prog 6 td6 := Facts.closed (by kernel_rfl) (by kernel_rfl) (by kernel_rfl) rfl rfl
theorem tf9 : Facts Try.prog 9 td9 := Facts.closed (by kernel_rfl) (by kernel_rfl) (by kernel_rfl) rfl rfl
theorem tf10 : Facts Try.prog 10 td10 := Facts.closed (by kernel_rfl) (by kernel_rfl) (by kernel_rfl) rfl rfl
theorem tf11 : Facts Try.prog 11 td11 := Facts.closed (by kernel_rfl) (by kernel_rfl) (by kernel_rfl) rfl rfl
theorem tf12 : Facts Try.prog 12 td12 := Facts.closed (by kernel_rfl) (by kernel_rfl) (by kernel_rfl) rfl rfl
theorem tf21 : Facts Try.prog 21 td21 := Facts.closed (by kernel_rfl) (by kernel_rfl) (by kernel_rfl) rfl rfl
theorem tf22 : Facts Try.prog 22 td22 := Facts.closed (by kernel_rfl) (by kernel_rfl) (by kernel_rfl) rfl rfl
theorem tf23 : Facts Try.prog 23 td23 := Facts.closed (by kernel_rfl) (by kernel_rfl) (by kernel_rfl) rfl rfl
theorem tf24 : Facts Try.prog 24 td24 := Facts.closed (by kernel_rfl) (by kernel_rfl) (by kernel_rfl) rfl rfl
theorem tf25 : Facts Try.prog 25 td25 := Facts.closed (by kernel_rfl) (by kernel_rfl) (by kernel_rfl) rfl rfl
theorem tf27 : Facts Try.prog 27 td27 := Facts.closed (by kernel_rfl) (by kernel_rfl) (by kernel_rfl) rfl rfl
theorem tf30 : Facts Try.prog 30 td30 := Facts.closed (by kernel_rfl) (by kernel_rfl) (by kernel_rfl) rfl rfl
theorem tf31 : Facts Try.prog 31 td31 := Facts.closed (by kernel_rfl) (by kernel_rfl) (by kernel_rfl) rfl rfl
theorem tf32 : Facts Try.prog 32 td32 := Facts.closed (by kernel_rfl) (by kernel_rfl) (by kernel_rfl) rfl rfl
theorem tf37 : Facts Try.prog 37 td37 := Facts.closed (by kernel_rfl) (by kernel_rfl) (by kernel_rfl) rfl rfl
theorem tf41 : Facts Try.prog 41 td41 := Facts.closed (by kernel_rfl) (by kernel_rfl) (by kernel_rfl) rfl rfl
theorem tf42 : Facts Try.prog 42 td42 := Facts.closed (by kernel_rfl) (by kernel_rfl) (by kernel_rfl) rfl rfl
theorem tf43 : Facts Try.prog 43 td43 := Facts.closed (by kernel_rfl) (by kernel_rfl) (by kernel_rfl) rfl rfl
theorem tf44 : Facts Try.prog 44 td44 := Facts.closed (by kernel_rfl) (by kernel_rfl) (by kernel_rfl) rfl rfl
theorem tf50 : Facts Try.prog 50 td50 := Facts.closed (by kernel_rfl) (by kernel_rfl) (by kernel_rfl) rfl rfl
theorem tf51 : Facts Try.prog 51 td51 := Facts.closed (by kernel_rfl) (by kernel_rfl) (by kernel_rfl) rfl rfl
theorem tf52 : Facts Try.prog 52 td52 := Facts.closed (by kernel_rfl) (by kernel_rfl) (by kernel_rfl) rfl rfl
theorem tf53 : Facts Try.prog 53 td53 := Facts.closed (by kernel_rfl) (by kernel_rfl) (by kernel_rfl) rfl rfl
theorem tf60 : Facts Try.prog 60 td60 := Facts.closed (by kernel_rfl) (by kernel_rfl) (by kernel_rfl) rfl rfl
theorem tf62 : Facts Try.prog 62 td62 := Facts.closed (by kernel_rfl) (by kernel_rfl) (by kernel_rfl) rfl rfl
theorem tf69 : Facts Try.prog 69 td69 := Facts.closed (by kernel_rfl) (by kernel_rfl) (by kernel_rfl) rfl rfl
theorem tf70 : Facts Try.prog 70 td70 := Facts.closed (by kernel_rfl) (by kernel_rfl) (by kernel_rfl) rfl rfl
theorem tf72 : Facts Try.prog 72 td72 := Facts.closed (by kernel_rfl) (by kernel_rfl) (by kernel_rfl) rfl rfl
theorem tf73 : Facts Try.prog 73 td73 := Facts.closed (by kernel_rfl) (by kernel_rfl) (by kernel_rfl) rfl rfl
theorem tf78 : Facts Try.prog 78 td78 := Facts.closed (by kernel_rfl) (by kernel_rfl) (by kernel_rfl) rfl rfl
theorem tf80 : Facts Try.prog 80 td80 := Facts.closed (by kernel_rfl) (by kernel_rfl) (by kernel_rfl) rfl rfl
theorem tf88 : Facts Try.prog 88 td88 := Facts.closed (by kernel_rfl) (by kernel_rfl) (by kernel_rfl) rfl rfl
theorem tf91 : Facts Try.prog 91 td91 := Facts.closed (by kernel_rfl) (by kernel_rfl) (by kernel_rfl) rfl rfl
theorem tf111 : Facts Try.prog 111 td111 := Facts.closed (by kernel_rfl) (by kernel_rfl) (by kernel_rfl) rfl rfl
theorem tf124 : Facts Try.prog 124 td124 := Facts.closed (by kernel_rfl) (by kernel_rfl) (by kernel_rfl) rfl rfl
theorem tf125 : Facts Try.prog 125 td125 := Facts.closed (by kernel_rfl) (by kernel_rfl) (by kernel_rfl) rfl rfl
theorem tf136 : Facts Try.prog 136 td136 := Facts.closed (by kernel_rfl) (by kernel_rfl) (by kernel_rfl) rfl rfl
theorem tf143 : Facts Try.prog 143 td143 := Facts.closed (by kernel_rfl) (by kernel_rfl) (by kernel_rfl) rfl rfl
theorem tf146 : Facts Try.prog 146 td146 := Facts.closed (by kernel_rfl) (by kernel_rfl) (by kernel_rfl) rfl rfl
theorem tf159 : Facts Try.prog 159 td159 := Facts.closed (by kernel_rfl) (by kernel_rfl) (by kernel_rfl) rfl rfl
theorem tf163 : Facts Try.prog 163 td163 := Facts.closed (by kernel_rfl) (by kernel_rfl) (by kernel_rfl) rfl rfl
theorem tf164 : Facts Try.prog 164 td164 := Facts.closed (by kernel_rfl) (by kernel_rfl) (by kernel_rfl) rfl rfl
theorem tf167 : Facts Try.prog 167 td167 := Facts.closed (by kernel_rfl) (by kernel_rfl) (by kernel_rfl) rfl rfl
theorem tf168 : Facts Try.prog 168 td168 := Facts.closed (by kernel_rfl) (by kernel_rfl) (by kernel_rfl) rfl rfl
theorem tabT_ok : ∀ t d, tabT t = some d → Facts Try.prog t d := findT_ok (by
  intro e he
  simp only [tabL, List.mem_cons, List.not_mem_nil, or_false] at he
  rcases he with rfl | rfl | rfl | rfl | rfl | rfl | rfl | rfl | rfl | rfl | rfl | rfl | rfl | rfl | rfl | rfl | rfl | rfl | rfl | rfl | rfl | rfl | rfl | rfl | rfl | rfl | rfl | rfl | rfl | rfl | rfl | rfl | rfl | rfl | rfl | rfl | rfl | rfl | rfl | rfl | rfl | rfl | rfl | rfl | rfl | rfl | rfl | rfl
  · exact tf2
  · exact tf3
  · exact tf4
  · exact tf5
  · exact tf6
  · exact tf9
  · exact tf10
  · exact tf11
  · exact tf12
  · exact tf21
  · exact tf22
  · exact tf23
  · exact tf24
  · exact tf25
  · exact tf27
  · exact tf30
  · exact tf31
  · exact tf32
  · exact tf37
  · exact tf41
  · exact tf42
  · exact tf43
  · exact tf44
  · exact tf50
  · exact tf51
  · exact tf52
  · exact tf53
  · exact tf60
  · exact tf62
  · exact tf69
  · exact tf70
  · exact tf72
  · exact tf73
  · exact tf78
  · exact tf80
  · exact tf88
  · exact tf91
  · exact tf111
  · exact tf124
  · exact tf125
  · exact tf136
  · exact tf143
  · exact tf146
  · exact tf159
  · exact tf163
  · exact tf164
  · exact tf167
  · exact tf168)
theorem eqi2 : EqI Try.prog 2 1 false 1 := EqI.int tf2 rfl rfl
theorem eqi3 : EqI Try.prog 3 1 false 1 := EqI.int tf3 rfl rfl
theorem eqi24 : EqI Try.prog 24 (3 * 1) true (1 + 1) := EqI.array tf24 rfl rfl tf3 rfl eqi3
theorem eqk24 : EqOK Try.prog 24 := EqI.ok eqi24 (by decide) (by kernel_rfl) (by kernel_rfl)
theorem eqi25 : EqI Try.prog 25 (3 * 1) true (1 + 1) := EqI.array tf25 rfl rfl tf3 rfl eqi3
theorem eqk25 : EqOK Try.prog 25 := EqI.ok eqi25 (by decide) (by kernel_rfl) (by kernel_rfl)
theorem eqi27 : EqI Try.prog 27 1 false 1 := EqI.int tf27 rfl rfl
theorem eqi41 : EqI Try.prog 41 4 true (2 + 1) := EqI.struct (tot := 4) (fs := #[{ name := "M", type := 3, offset := 0, embedded := false, tag := "", pkgPath := "", byteOffset := 0 }, { name := "X", type := 25, offset := 1, embedded := false, tag := "", pkgPath := "", byteOffset := 8 }]) tf41 rfl rfl (by kernel_rfl) (.cons _ _ _ _ _ (by decide) (eqi3).up (.cons _ _ _ _ _ (by decide) eqi25 (FieldsI.nil _)))
theorem eqk41 : EqOK Try.prog 41 := EqI.ok eqi41 (by decide) (by kernel_rfl) (by kernel_rfl)
theorem eqi42 : EqI Try.prog 42 4 true (2 + 1) := EqI.struct (tot := 4) (fs := #[{ name := "M", type := 3, offset := 0, embedded := false, tag := "", pkgPath := "", byteOffset := 0 }, { name := "X", type := 25, offset := 1, embedded := false, tag := "", pkgPath := "", byteOffset := 8 }]) tf42 rfl rfl (by kernel_rfl) (.cons _ _ _ _ _ (by decide) (eqi3).up (.cons _ _ _ _ _ (by decide) eqi25 (FieldsI.nil _)))
theorem eqk42 : EqOK Try.prog 42 := EqI.ok eqi42 (by decide) (by kernel_rfl) (by kernel_rfl)
theorem eqi43 : EqI Try.prog 43 6 true (3 + 1) := EqI.struct (tot := 6) (fs := #[{ name := "At", type := 42, offset := 0, embedded := false, tag := "", pkgPath := "", byteOffset := 0 }, { name := "Weight", type := 3, offset := 4, embedded := false, tag := "", pkgPath := "", byteOffset := 32 }, { name := "Odd", type := 3, offset := 5, embedded := false, tag := "", pkgPath := "", byteOffset := 40 }]) tf43 rfl rfl (by kernel_rfl) (.cons _ _ _ _ _ (by decide) eqi42 (.cons _ _ _ _ _ (by decide) ((eqi3).up).up (.cons _ _ _ _ _ (by decide) ((eqi3).up).up (FieldsI.nil _))))
theorem eqk43 : EqOK Try.prog 43 := EqI.ok eqi43 (by decide) (by kernel_rfl) (by kernel_rfl)
theorem eqi44 : EqI Try.prog 44 6 true (3 + 1) := EqI.struct (tot := 6) (fs := #[{ name := "At", type := 42, offset := 0, embedded := false, tag := "", pkgPath := "", byteOffset := 0 }, { name := "Weight", type := 3, offset := 4, embedded := false, tag := "", pkgPath := "", byteOffset := 32 }, { name := "Odd", type := 3, offset := 5, embedded := false, tag := "", pkgPath := "", byteOffset := 40 }]) tf44 rfl rfl (by kernel_rfl) (.cons _ _ _ _ _ (by decide) eqi42 (.cons _ _ _ _ _ (by decide) ((eqi3).up).up (.cons _ _ _ _ _ (by decide) ((eqi3).up).up (FieldsI.nil _))))
theorem eqk44 : EqOK Try.prog 44 := EqI.ok eqi44 (by decide) (by kernel_rfl) (by kernel_rfl)
theorem eqi50 : EqI Try.prog 50 (3 * 3) true (2 + 1) := EqI.array tf50 rfl rfl tf24 rfl eqi24
theorem eqk50 : EqOK Try.prog 50 := EqI.ok eqi50 (by decide) (by kernel_rfl) (by kernel_rfl)
theorem eqi51 : EqI Try.prog 51 (3 * 3) true (2 + 1) := EqI.array tf51 rfl rfl tf24 rfl eqi24
theorem eqk51 : EqOK Try.prog 51 := EqI.ok eqi51 (by decide) (by kernel_rfl) (by kernel_rfl)
theorem eqi52 : EqI Try.prog 52 12 true (3 + 1) := EqI.struct (tot := 12) (fs := #[{ name := "R", type := 51, offset := 0, embedded := false, tag := "", pkgPath := "", byteOffset := 0 }, { name := "T", type := 25, offset := 9, embedded := false, tag := "", pkgPath := "", byteOffset := 72 }]) tf52 rfl rfl (by kernel_rfl) (.cons _ _ _ _ _ (by decide) eqi51 (.cons _ _ _ _ _ (by decide) (eqi25).up (FieldsI.nil _)))
theorem eqk52 : EqOK Try.prog 52 := EqI.ok eqi52 (by decide) (by kernel_rfl) (by kernel_rfl)
theorem eqi53 : EqI Try.prog 53 12 true (3 + 1) := EqI.struct (tot := 12) (fs := #[{ name := "R", type := 51, offset := 0, embedded := false, tag := "", pkgPath := "", byteOffset := 0 }, { name := "T", type := 25, offset := 9, embedded := false, tag := "", pkgPath := "", byteOffset := 72 }]) tf53 rfl rfl (by kernel_rfl) (.cons _ _ _ _ _ (by decide) eqi51 (.cons _ _ _ _ _ (by decide) (eqi25).up (FieldsI.nil _)))
theorem eqk53 : EqOK Try.prog 53 := EqI.ok eqi53 (by decide) (by kernel_rfl) (by kernel_rfl)
theorem eqi69 : EqI Try.prog 69 2 true (1 + 1) := EqI.struct (tot := 2) (fs := #[{ name := "h", type := 3, offset := 0, embedded := false, tag := "", pkgPath := "facet/facetref15", byteOffset := 0 }, { name := "l", type := 3, offset := 1, embedded := false, tag := "", pkgPath := "facet/facetref15", byteOffset := 8 }]) tf69 rfl rfl (by kernel_rfl) (.cons _ _ _ _ _ (by decide) eqi3 (.cons _ _ _ _ _ (by decide) eqi3 (FieldsI.nil _)))
theorem eqk69 : EqOK Try.prog 69 := EqI.ok eqi69 (by decide) (by kernel_rfl) (by kernel_rfl)
theorem eqi70 : EqI Try.prog 70 2 true (1 + 1) := EqI.struct (tot := 2) (fs := #[{ name := "h", type := 3, offset := 0, embedded := false, tag := "", pkgPath := "facet/facetref15", byteOffset := 0 }, { name := "l", type := 3, offset := 1, embedded := false, tag := "", pkgPath := "facet/facetref15", byteOffset := 8 }]) tf70 rfl rfl (by kernel_rfl) (.cons _ _ _ _ _ (by decide) eqi3 (.cons _ _ _ _ _ (by decide) eqi3 (FieldsI.nil _)))
theorem eqk70 : EqOK Try.prog 70 := EqI.ok eqi70 (by decide) (by kernel_rfl) (by kernel_rfl)
theorem eqi136 : EqI Try.prog 136 1 false 1 := EqI.int tf136 rfl rfl
theorem eqk2 : EqOK Try.prog 2 := ⟨by kernel_rfl, .inl (by kernel_rfl)⟩
theorem eqk3 : EqOK Try.prog 3 := ⟨by kernel_rfl, .inl (by kernel_rfl)⟩
theorem eqk27 : EqOK Try.prog 27 := ⟨by kernel_rfl, .inl (by kernel_rfl)⟩
theorem eqk136 : EqOK Try.prog 136 := ⟨by kernel_rfl, .inl (by kernel_rfl)⟩
def eqL : List Nat := [24, 25, 41, 42, 43, 44, 50, 51, 52, 53, 69, 70, 2, 3, 27, 136]
def memN : List Nat → Nat → Bool
  | [], _ => false
  | k :: r, n => match Nat.beq k n with | true => true | false => memN r n
theorem memN_ok : ∀ {l : List Nat} {n : Nat}, memN l n = true → n ∈ l
  | [], n, h => by cases h
  | k :: r, n, h => by
    unfold memN at h
    split at h
    · rename_i hk
      simp [Nat.eq_of_beq_eq_true hk]
    · exact List.mem_cons_of_mem _ (memN_ok h)
theorem eqL_ok : ∀ t, memN eqL t = true → EqOK Try.prog t := by
  intro t h
  have := memN_ok h
  simp only [eqL, List.mem_cons, List.not_mem_nil, or_false] at this
  rcases this with rfl | rfl | rfl | rfl | rfl | rfl | rfl | rfl | rfl | rfl | rfl | rfl | rfl | rfl | rfl | rfl
  · exact eqk24
  · exact eqk25
  · exact eqk41
  · exact eqk42
  · exact eqk43
  · exact eqk44
  · exact eqk50
  · exact eqk51
  · exact eqk52
  · exact eqk53
  · exact eqk69
  · exact eqk70
  · exact eqk2
  · exact eqk3
  · exact eqk27
  · exact eqk136
def GL : Nat → Option (List Value)
  | _ => none
end E
end Go.Proofs.Ytjhognibibmeiaa
