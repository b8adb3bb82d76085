/-
  What the evaluator asks of this seat's types: closed facts of the loaded program. Printed by a program of this repo's own out of the seat's translation.
-/
import Derived.Test.YtjhognibibmeiaaGreatProg
import Derived.Test.YtjhognibibmeiaaGreatEn
import Derived.KernelRfl
set_option linter.unusedVariables false
namespace Go.Proofs.YtjhognibibmeiaaGreat
namespace E
open Go
def td2 : TD := ⟨.int .i64, 1, 8, [.int .i64 0]⟩
def td3 : TD := ⟨.int .i64, 1, 8, [.int .i64 0]⟩
def td4 : TD := ⟨.bool, 1, 1, [.bool false]⟩
def td5 : TD := ⟨.int .u8, 1, 1, [.int .u8 0]⟩
def td6 : TD := ⟨.int .u8, 1, 1, [.int .u8 0]⟩
def td9 : TD := ⟨.string, 1, 16, [.string ⟨#[]⟩]⟩
def td10 : TD := ⟨.string, 1, 16, [.string ⟨#[]⟩]⟩
def td11 : TD := ⟨.string, 1, 16, [.string ⟨#[]⟩]⟩
def td12 : TD := ⟨.int .u64, 1, 8, [.int .u64 0]⟩
def td21 : TD := ⟨.int .i32, 1, 4, [.int .i32 0]⟩
def td22 : TD := ⟨.slice 63, 1, 24, [.slice none 0 0]⟩
def td23 : TD := ⟨.slice 44, 1, 24, [.slice none 0 0]⟩
def td24 : TD := ⟨.array 3 3, 3, 24, [.int .i64 0, .int .i64 0, .int .i64 0]⟩
def td25 : TD := ⟨.array 3 3, 3, 24, [.int .i64 0, .int .i64 0, .int .i64 0]⟩
def td27 : TD := ⟨.slice 3, 1, 24, [.slice none 0 0]⟩
def td28 : TD := ⟨.struct #[{ name := "M", type := 3, offset := 0, embedded := false, tag := "", pkgPath := "", byteOffset := 0 }, { name := "C", type := 27, offset := 1, embedded := false, tag := "", pkgPath := "", byteOffset := 8 }], 2, 32, [.int .i64 0, .slice none 0 0]⟩
def td29 : TD := ⟨.struct #[{ name := "M", type := 3, offset := 0, embedded := false, tag := "", pkgPath := "", byteOffset := 0 }, { name := "C", type := 27, offset := 1, embedded := false, tag := "", pkgPath := "", byteOffset := 8 }], 2, 32, [.int .i64 0, .slice none 0 0]⟩
def td30 : TD := ⟨.int .i64, 1, 8, [.int .i64 0]⟩
def td37 : TD := ⟨.complex .f64, 1, 16, [.complex .f64 0 0]⟩
def td41 : TD := ⟨.struct #[{ name := "M", type := 3, offset := 0, embedded := false, tag := "", pkgPath := "", byteOffset := 0 }, { name := "X", type := 25, offset := 1, embedded := false, tag := "", pkgPath := "", byteOffset := 8 }], 4, 32, [.int .i64 0, .int .i64 0, .int .i64 0, .int .i64 0]⟩
def td42 : TD := ⟨.struct #[{ name := "M", type := 3, offset := 0, embedded := false, tag := "", pkgPath := "", byteOffset := 0 }, { name := "X", type := 25, offset := 1, embedded := false, tag := "", pkgPath := "", byteOffset := 8 }], 4, 32, [.int .i64 0, .int .i64 0, .int .i64 0, .int .i64 0]⟩
def td43 : TD := ⟨.struct #[{ name := "At", type := 42, offset := 0, embedded := false, tag := "", pkgPath := "", byteOffset := 0 }, { name := "Weight", type := 3, offset := 4, embedded := false, tag := "", pkgPath := "", byteOffset := 32 }, { name := "Odd", type := 3, offset := 5, embedded := false, tag := "", pkgPath := "", byteOffset := 40 }], 6, 48, [.int .i64 0, .int .i64 0, .int .i64 0, .int .i64 0, .int .i64 0, .int .i64 0]⟩
def td44 : TD := ⟨.struct #[{ name := "At", type := 42, offset := 0, embedded := false, tag := "", pkgPath := "", byteOffset := 0 }, { name := "Weight", type := 3, offset := 4, embedded := false, tag := "", pkgPath := "", byteOffset := 32 }, { name := "Odd", type := 3, offset := 5, embedded := false, tag := "", pkgPath := "", byteOffset := 40 }], 6, 48, [.int .i64 0, .int .i64 0, .int .i64 0, .int .i64 0, .int .i64 0, .int .i64 0]⟩
def td51 : TD := ⟨.slice 53, 1, 24, [.slice none 0 0]⟩
def td53 : TD := ⟨.slice 42, 1, 24, [.slice none 0 0]⟩
def td57 : TD := ⟨.slice 25, 1, 24, [.slice none 0 0]⟩
def td60 : TD := ⟨.array 3 24, 9, 72, [.int .i64 0, .int .i64 0, .int .i64 0, .int .i64 0, .int .i64 0, .int .i64 0, .int .i64 0, .int .i64 0, .int .i64 0]⟩
def td61 : TD := ⟨.array 3 24, 9, 72, [.int .i64 0, .int .i64 0, .int .i64 0, .int .i64 0, .int .i64 0, .int .i64 0, .int .i64 0, .int .i64 0, .int .i64 0]⟩
def td62 : TD := ⟨.struct #[{ name := "R", type := 61, offset := 0, embedded := false, tag := "", pkgPath := "", byteOffset := 0 }, { name := "T", type := 25, offset := 9, embedded := false, tag := "", pkgPath := "", byteOffset := 72 }], 12, 96, [.int .i64 0, .int .i64 0, .int .i64 0, .int .i64 0, .int .i64 0, .int .i64 0, .int .i64 0, .int .i64 0, .int .i64 0, .int .i64 0, .int .i64 0, .int .i64 0]⟩
def td63 : TD := ⟨.struct #[{ name := "R", type := 61, offset := 0, embedded := false, tag := "", pkgPath := "", byteOffset := 0 }, { name := "T", type := 25, offset := 9, embedded := false, tag := "", pkgPath := "", byteOffset := 72 }], 12, 96, [.int .i64 0, .int .i64 0, .int .i64 0, .int .i64 0, .int .i64 0, .int .i64 0, .int .i64 0, .int .i64 0, .int .i64 0, .int .i64 0, .int .i64 0, .int .i64 0]⟩
def td67 : TD := ⟨.struct #[{ name := "h", type := 3, offset := 0, embedded := false, tag := "", pkgPath := "facet/facetref15", byteOffset := 0 }, { name := "l", type := 3, offset := 1, embedded := false, tag := "", pkgPath := "facet/facetref15", byteOffset := 8 }], 2, 16, [.int .i64 0, .int .i64 0]⟩
def td68 : TD := ⟨.struct #[{ name := "h", type := 3, offset := 0, embedded := false, tag := "", pkgPath := "facet/facetref15", byteOffset := 0 }, { name := "l", type := 3, offset := 1, embedded := false, tag := "", pkgPath := "facet/facetref15", byteOffset := 8 }], 2, 16, [.int .i64 0, .int .i64 0]⟩
def td70 : TD := ⟨.slice 68, 1, 24, [.slice none 0 0]⟩
def td71 : TD := ⟨.slice 30, 1, 24, [.slice none 0 0]⟩
def td73 : TD := ⟨.map 63 3, 1, 8, [.map none]⟩
def td86 : TD := ⟨.slice 37, 1, 24, [.slice none 0 0]⟩
def td89 : TD := ⟨.float .f64, 1, 8, [.float .f64 0]⟩
def td108 : TD := ⟨.int .u64, 1, 8, [.int .u64 0]⟩
def td124 : TD := ⟨.int .u64, 1, 8, [.int .u64 0]⟩
def td125 : TD := ⟨.array 48 124, 48, 384, [.int .u64 0, .int .u64 0, .int .u64 0, .int .u64 0, .int .u64 0, .int .u64 0, .int .u64 0, .int .u64 0, .int .u64 0, .int .u64 0, .int .u64 0, .int .u64 0, .int .u64 0, .int .u64 0, .int .u64 0, .int .u64 0, .int .u64 0, .int .u64 0, .int .u64 0, .int .u64 0, .int .u64 0, .int .u64 0, .int .u64 0, .int .u64 0, .int .u64 0, .int .u64 0, .int .u64 0, .int .u64 0, .int .u64 0, .int .u64 0, .int .u64 0, .int .u64 0, .int .u64 0, .int .u64 0, .int .u64 0, .int .u64 0, .int .u64 0, .int .u64 0, .int .u64 0, .int .u64 0, .int .u64 0, .int .u64 0, .int .u64 0, .int .u64 0, .int .u64 0, .int .u64 0, .int .u64 0, .int .u64 0]⟩
def td137 : TD := ⟨.int .i64, 1, 8, [.int .i64 0]⟩
def td144 : TD := ⟨.int .u32, 1, 4, [.int .u32 0]⟩
def td147 : TD := ⟨.int .u64, 1, 8, [.int .u64 0]⟩
def td160 : TD := ⟨.array 0 16, 0, 0, []⟩
def td164 : TD := ⟨.int .u8, 1, 1, [.int .u8 0]⟩
def td165 : TD := ⟨.int .u8, 1, 1, [.int .u8 0]⟩
def td168 : TD := ⟨.int .i32, 1, 4, [.int .i32 0]⟩
def td169 : TD := ⟨.int .i32, 1, 4, [.int .i32 0]⟩
def tabL : List (Nat × TD) := [(2, td2), (3, td3), (4, td4), (5, td5), (6, td6), (9, td9), (10, td10), (11, td11), (12, td12), (21, td21), (22, td22), (23, td23), (24, td24), (25, td25), (27, td27), (28, td28), (29, td29), (30, td30), (37, td37), (41, td41), (42, td42), (43, td43), (44, td44), (51, td51), (53, td53), (57, td57), (60, td60), (61, td61), (62, td62), (63, td63), (67, td67), (68, td68), (70, td70), (71, td71), (73, td73), (86, td86), (89, td89), (108, td108), (124, td124), (125, td125), (137, td137), (144, td144), (147, td147), (160, td160), (164, td164), (165, td165), (168, td168), (169, td169)]
def findT : List (Nat × TD) → Nat → Option TD
  | [], _ => none
  | (k, d) :: r, n => match Nat.beq k n with | true => some d | false => findT r n
def tabT : Nat → Option TD := findT tabL
theorem findT_ok {P : Program} : ∀ {l : List (Nat × TD)}, (∀ e ∈ l, Facts P e.1 e.2) → ∀ t d, findT l t = some d → Facts P t d
  | [], _, t, d, h => by cases h
  | (k, e) :: r, hl, t, d, h => by
    unfold findT at h
    split at h
    · rename_i hk
      have := Nat.eq_of_beq_eq_true hk
      subst this
      injection h with h
      subst h
      exact hl (k, e) (by simp)
    · exact findT_ok (fun e he => hl e (by simp [he])) t d h
theorem Facts.closed {P : Program} {t : Nat} {d : TD} (hu : P.underlying t = some d.desc)
    (hi : (P.info? t).map (fun i => (i.size, i.bytes, i.zero.map fun z => z.cells.toList)) = some (d.sz, d.bytes, some d.zero))
    (hs : (P.info? t).map (fun i => match i.zero with | some (.agg _) => true | _ => false) = some d.isAgg)
    (h1 : d.zero.all (·.oneCell') = true) (hl : d.zero.length = d.sz) : Facts P t d := by
  refine ⟨hu, ?_, h1, hl, ?_⟩
  · cases hq : P.info? t with
    | none => rw [hq] at hi; cases hi
    | some i =>
      rw [hq] at hi
      simp only [Option.map_some, Option.some.injEq, Prod.mk.injEq] at hi
      obtain ⟨e1, e2, e3⟩ := hi
      cases hz : i.zero with
      | none => rw [hz] at e3; cases e3
      | some z =>
        rw [hz] at e3
        simp only [Option.map_some, Option.some.injEq] at e3
        exact ⟨i, z, rfl, e1, e2, hz, e3⟩
  · cases ha : d.isAgg with
    | true => exact .inl rfl
    | false =>
      refine .inr fun i hi' cs hz => ?_
      rw [hi', Option.map_some, hz, ha] at hs
      cases hs
theorem tf2 : Facts Tryz.prog 2 td2 := Facts.closed (by kernel_rfl) (by kernel_rfl) (by kernel_rfl) rfl rfl
theorem tf3 : Facts Tryz.prog 3 td3 := Facts.closed (by kernel_rfl) (by kernel_rfl) (by kernel_rfl) rfl rfl
theorem tf4 : Facts Tryz.prog 4 td4 := Facts.closed (by kernel_rfl) (by kernel_rfl) (by kernel_rfl) rfl rfl
theorem tf5 : Facts Tryz.prog 5 td5 := Facts.closed (by kernel_rfl) (by kernel_rfl) (by kernel_rfl) rfl rfl
theorem tf6 : Facts Tryz.prog 6 td6 := Facts.closed (by kernel_rfl) (by kernel_rfl) (by kernel_rfl) rfl rfl
theorem tf9 : Facts Tryz.prog 9 td9 := Facts.closed (by kernel_rfl) (by kernel_rfl) (by kernel_rfl) rfl rfl
theorem tf10 : Facts Tryz.prog 10 td10 := Facts.closed (by kernel_rfl) (by kernel_rfl) (by kernel_rfl) rfl rfl
theorem tf11 : Facts Tryz.prog 11 td11 := Facts.closed (by kernel_rfl) (by kernel_rfl) (by kernel_rfl) rfl rfl
theorem tf12 : Facts Tryz.prog 12 td12 := Facts.closed (by kernel_rfl) (by kernel_rfl) (by kernel_rfl) rfl rfl
theorem tf21 : Facts Tryz.prog 21 td21 := Facts.closed (by kernel_rfl) (by kernel_rfl) (by kernel_rfl) rfl rfl
theorem tf22 : Facts Tryz.prog 22 td22 := Facts.closed (by kernel_rfl) (by kernel_rfl) (by kernel_rfl) rfl rfl
theorem tf23 : Facts Tryz.prog 23 td23 := Facts.closed (by kernel_rfl) (by kernel_rfl) (by kernel_rfl) rfl rfl
theorem tf24 : Facts Tryz.prog 24 td24 := Facts.closed (by kernel_rfl) (by kernel_rfl) (by kernel_rfl) rfl rfl
theorem tf25 : Facts Tryz.prog 25 td25 := Facts.closed (by kernel_rfl) (by kernel_rfl) (by kernel_rfl) rfl rfl
theorem tf27 : Facts Tryz.prog 27 td27 := Facts.closed (by kernel_rfl) (by kernel_rfl) (by kernel_rfl) rfl rfl
theorem tf28 : Facts Tryz.prog 28 td28 := Facts.closed (by kernel_rfl) (by kernel_rfl) (by kernel_rfl) rfl rfl
theorem tf29 : Facts Tryz.prog 29 td29 := Facts.closed (by kernel_rfl) (by kernel_rfl) (by kernel_rfl) rfl rfl
theorem tf30 : Facts Tryz.prog 30 td30 := Facts.closed (by kernel_rfl) (by kernel_rfl) (by kernel_rfl) rfl rfl
theorem tf37 : Facts Tryz.prog 37 td37 := Facts.closed (by kernel_rfl) (by kernel_rfl) (by kernel_rfl) rfl rfl
theorem tf41 : Facts Tryz.prog 41 td41 := Facts.closed (by kernel_rfl) (by kernel_rfl) (by kernel_rfl) rfl rfl
theorem tf42 : Facts Tryz.prog 42 td42 := Facts.closed (by kernel_rfl) (by kernel_rfl) (by kernel_rfl) rfl rfl
theorem tf43 : Facts Tryz.prog 43 td43 := Facts.closed (by kernel_rfl) (by kernel_rfl) (by kernel_rfl) rfl rfl
theorem tf44 : Facts Tryz.prog 44 td44 := Facts.closed (by kernel_rfl) (by kernel_rfl) (by kernel_rfl) rfl rfl
theorem tf51 : Facts Tryz.prog 51 td51 := Facts.closed (by kernel_rfl) (by kernel_rfl) (by kernel_rfl) rfl rfl
theorem tf53 : Facts Tryz.prog 53 td53 := Facts.closed (by kernel_rfl) (by kernel_rfl) (by kernel_rfl) rfl rfl
theorem tf57 : Facts Tryz.prog 57 td57 := Facts.closed (by kernel_rfl) (by kernel_rfl) (by kernel_rfl) rfl rfl
theorem tf60 : Facts Tryz.prog 60 td60 := Facts.closed (by kernel_rfl) (by kernel_rfl) (by kernel_rfl) rfl rfl
theorem tf61 : Facts Tryz.prog 61 td61 := Facts.closed (by kernel_rfl) (by kernel_rfl) (by kernel_rfl) rfl rfl
theorem tf62 : Facts Tryz.prog 62 td62 := Facts.closed (by kernel_rfl) (by kernel_rfl) (by kernel_rfl) rfl rfl
theorem tf63 : Facts Tryz.prog 63 td63 := Facts.closed (by kernel_rfl) (by kernel_rfl) (by kernel_rfl) rfl rfl
theorem tf67 : Facts Tryz.prog 67 td67 := Facts.closed (by kernel_rfl) (by kernel_rfl) (by kernel_rfl) rfl rfl
theorem tf68 : Facts Tryz.prog 68 td68 := Facts.closed (by kernel_rfl) (by kernel_rfl) (by kernel_rfl) rfl rfl
theorem tf70 : Facts Tryz.prog 70 td70 := Facts.closed (by kernel_rfl) (by kernel_rfl) (by kernel_rfl) rfl rfl
theorem tf71 : Facts Tryz.prog 71 td71 := Facts.closed (by kernel_rfl) (by kernel_rfl) (by kernel_rfl) rfl rfl
theorem tf73 : Facts Tryz.prog 73 td73 := Facts.closed (by kernel_rfl) (by kernel_rfl) (by kernel_rfl) rfl rfl
theorem tf86 : Facts Tryz.prog 86 td86 := Facts.closed (by kernel_rfl) (by kernel_rfl) (by kernel_rfl) rfl rfl
theorem tf89 : Facts Tryz.prog 89 td89 := Facts.closed (by kernel_rfl) (by kernel_rfl) (by kernel_rfl) rfl rfl
theorem tf108 : Facts Tryz.prog 108 td108 := Facts.closed (by kernel_rfl) (by kernel_rfl) (by kernel_rfl) rfl rfl
theorem tf124 : Facts Tryz.prog 124 td124 := Facts.closed (by kernel_rfl) (by kernel_rfl) (by kernel_rfl) rfl rfl
theorem tf125 : Facts Tryz.prog 125 td125 := Facts.closed (by kernel_rfl) (by kernel_rfl) (by kernel_rfl) rfl rfl
theorem tf137 : Facts Tryz.prog 137 td137 := Facts.closed (by kernel_rfl) (by kernel_rfl) (by kernel_rfl) rfl rfl
theorem tf144 : Facts Tryz.prog 144 td144 := Facts.closed (by kernel_rfl) (by kernel_rfl) (by kernel_rfl) rfl rfl
theorem tf147 : Facts Tryz.prog 147 td147 := Facts.closed (by kernel_rfl) (by kernel_rfl) (by kernel_rfl) rfl rfl
theorem tf160 : Facts Tryz.prog 160 td160 := Facts.closed (by kernel_rfl) (by kernel_rfl) (by kernel_rfl) rfl rfl
theorem tf164 : Facts Tryz.prog 164 td164 := Facts.closed (by kernel_rfl) (by kernel_rfl) (by kernel_rfl) rfl rfl
theorem tf165 : Facts Tryz.prog 165 td165 := Facts.closed (by kernel_rfl) (by kernel_rfl) (by kernel_rfl) rfl rfl
theorem tf168 : Facts Tryz.prog 168 td168 := Facts.closed (by kernel_rfl) (by kernel_rfl) (by kernel_rfl) rfl rfl
theorem tf169 : Facts Tryz.prog 169 td169 := Facts.closed (by kernel_rfl) (by kernel_rfl) (by kernel_rfl) rfl rfl
theorem tabT_ok : ∀ t d, tabT t = some d → Facts Tryz.prog t d := findT_ok (by
  intro e he
  simp only [tabL, List.mem_cons, List.not_mem_nil, or_false] at he
  rcases he with rfl | rfl | rfl | rfl | rfl | rfl | rfl | rfl | rfl | rfl | rfl | rfl | rfl | rfl | rfl | rfl | rfl | rfl | rfl | rfl | rfl | rfl | rfl | rfl | rfl | rfl | rfl | rfl | rfl | rfl | rfl | rfl | rfl | rfl | rfl | rfl | rfl | rfl | rfl | rfl | rfl | rfl | rfl | rfl | rfl | rfl | rfl | rfl
  · exact tf2
  · exact tf3
  · exact tf4
  · exact tf5
  · exact tf6
  · exact tf9
  · exact tf10
  · exact tf11
  · exact tf12
  · exact tf21
  · exact tf22
  · exact tf23
  · exact tf24
  · exact tf25
  · exact tf27
  · exact tf28
  · exact tf29
  · exact tf30
  · exact tf37
  · exact tf41
  · exact tf42
  · exact tf43
  · exact tf44
  · exact tf51
  · exact tf53
  · exact tf57
  · exact tf60
  · exact tf61
  · exact tf62
  · exact tf63
  · exact tf67
  · exact tf68
  · exact tf70
  · exact tf71
  · exact tf73
  · exact tf86
  · exact tf89
  · exact tf108
  · exact tf124
  · exact tf125
  · exact tf137
  · exact tf144
  · exact tf147
  · exact tf160
  · exact tf164
  · exact tf165
  · exact tf168
  · exact tf169)
theorem eqi2 : EqI Tryz.prog 2 1 false 1 := EqI.int tf2 rfl rfl
theorem eqi3 : EqI Tryz.prog 3 1 false 1 := EqI.int tf3 rfl rfl
theorem eqi24 : EqI Tryz.prog 24 (3 * 1) true (1 + 1) := EqI.array tf24 rfl rfl tf3 rfl eqi3
theorem eqk24 : EqOK Tryz.prog 24 := EqI.ok eqi24 (by decide) (by kernel_rfl) (by kernel_rfl)
theorem eqi25 : EqI Tryz.prog 25 (3 * 1) true (1 + 1) := EqI.array tf25 rfl rfl tf3 rfl eqi3
theorem eqk25 : EqOK Tryz.prog 25 := EqI.ok eqi25 (by decide) (by kernel_rfl) (by kernel_rfl)
theorem eqi30 : EqI Tryz.prog 30 1 false 1 := EqI.int tf30 rfl rfl
theorem eqi41 : EqI Tryz.prog 41 4 true (2 + 1) := EqI.struct (tot := 4) (fs := #[{ name := "M", type := 3, offset := 0, embedded := false, tag := "", pkgPath := "", byteOffset := 0 }, { name := "X", type := 25, offset := 1, embedded := false, tag := "", pkgPath := "", byteOffset := 8 }]) tf41 rfl rfl (by kernel_rfl) (.cons _ _ _ _ _ (by decide) (eqi3).up (.cons _ _ _ _ _ (by decide) eqi25 (FieldsI.nil _)))
theorem eqk41 : EqOK Tryz.prog 41 := EqI.ok eqi41 (by decide) (by kernel_rfl) (by kernel_rfl)
theorem eqi42 : EqI Tryz.prog 42 4 true (2 + 1) := EqI.struct (tot := 4) (fs := #[{ name := "M", type := 3, offset := 0, embedded := false, tag := "", pkgPath := "", byteOffset := 0 }, { name := "X", type := 25, offset := 1, embedded := false, tag := "", pkgPath := "", byteOffset := 8 }]) tf42 rfl rfl (by kernel_rfl) (.cons _ _ _ _ _ (by decide) (eqi3).up (.cons _ _ _ _ _ (by decide) eqi25 (FieldsI.nil _)))
theorem eqk42 : EqOK Tryz.prog 42 := EqI.ok eqi42 (by decide) (by kernel_rfl) (by kernel_rfl)
theorem eqi43 : EqI Tryz.prog 43 6 true (3 + 1) := EqI.struct (tot := 6) (fs := #[{ name := "At", type := 42, offset := 0, embedded := false, tag := "", pkgPath := "", byteOffset := 0 }, { name := "Weight", type := 3, offset := 4, embedded := false, tag := "", pkgPath := "", byteOffset := 32 }, { name := "Odd", type := 3, offset := 5, embedded := false, tag := "", pkgPath := "", byteOffset := 40 }]) tf43 rfl rfl (by kernel_rfl) (.cons _ _ _ _ _ (by decide) eqi42 (.cons _ _ _ _ _ (by decide) ((eqi3).up).up (.cons _ _ _ _ _ (by decide) ((eqi3).up).up (FieldsI.nil _))))
theorem eqk43 : EqOK Tryz.prog 43 := EqI.ok eqi43 (by decide) (by kernel_rfl) (by kernel_rfl)
theorem eqi44 : EqI Tryz.prog 44 6 true (3 + 1) := EqI.struct (tot := 6) (fs := #[{ name := "At", type := 42, offset := 0, embedded := false, tag := "", pkgPath := "", byteOffset := 0 }, { name := "Weight", type := 3, offset := 4, embedded := false, tag := "", pkgPath := "", byteOffset := 32 }, { name := "Odd", type := 3, offset := 5, embedded := false, tag := "", pkgPath := "", byteOffset := 40 }]) tf44 rfl rfl (by kernel_rfl) (.cons _ _ _ _ _ (by decide) eqi42 (.cons _ _ _ _ _ (by decide) ((eqi3).up).up (.cons _ _ _ _ _ (by decide) ((eqi3).up).up (FieldsI.nil _))))
theorem eqk44 : EqOK Tryz.prog 44 := EqI.ok eqi44 (by decide) (by kernel_rfl) (by kernel_rfl)
theorem eqi60 : EqI Tryz.prog 60 (3 * 3) true (2 + 1) := EqI.array tf60 rfl rfl tf24 rfl eqi24
theorem eqk60 : EqOK Tryz.prog 60 := EqI.ok eqi60 (by decide) (by kernel_rfl) (by kernel_rfl)
theorem eqi61 : EqI Tryz.prog 61 (3 * 3) true (2 + 1) := EqI.array tf61 rfl rfl tf24 rfl eqi24
theorem eqk61 : EqOK Tryz.prog 61 := EqI.ok eqi61 (by decide) (by kernel_rfl) (by kernel_rfl)
theorem eqi62 : EqI Tryz.prog 62 12 true (3 + 1) := EqI.struct (tot := 12) (fs := #[{ name := "R", type := 61, offset := 0, embedded := false, tag := "", pkgPath := "", byteOffset := 0 }, { name := "T", type := 25, offset := 9, embedded := false, tag := "", pkgPath := "", byteOffset := 72 }]) tf62 rfl rfl (by kernel_rfl) (.cons _ _ _ _ _ (by decide) eqi61 (.cons _ _ _ _ _ (by decide) (eqi25).up (FieldsI.nil _)))
theorem eqk62 : EqOK Tryz.prog 62 := EqI.ok eqi62 (by decide) (by kernel_rfl) (by kernel_rfl)
theorem eqi63 : EqI Tryz.prog 63 12 true (3 + 1) := EqI.struct (tot := 12) (fs := #[{ name := "R", type := 61, offset := 0, embedded := false, tag := "", pkgPath := "", byteOffset := 0 }, { name := "T", type := 25, offset := 9, embedded := false, tag := "", pkgPath := "", byteOffset := 72 }]) tf63 rfl rfl (by kernel_rfl) (.cons _ _ _ _ _ (by decide) eqi61 (.cons _ _ _ _ _ (by decide) (eqi25).up (FieldsI.nil _)))
theorem eqk63 : EqOK Tryz.prog 63 := EqI.ok eqi63 (by decide) (by kernel_rfl) (by kernel_rfl)
theorem eqi67 : EqI Tryz.prog 67 2 true (1 + 1) := EqI.struct (tot := 2) (fs := #[{ name := "h", type := 3, offset := 0, embedded := false, tag := "", pkgPath := "facet/facetref15", byteOffset := 0 }, { name := "l", type := 3, offset := 1, embedded := false, tag := "", pkgPath := "facet/facetref15", byteOffset := 8 }]) tf67 rfl rfl (by kernel_rfl) (.cons _ _ _ _ _ (by decide) eqi3 (.cons _ _ _ _ _ (by decide) eqi3 (FieldsI.nil _)))
theorem eqk67 : EqOK Tryz.prog 67 := EqI.ok eqi67 (by decide) (by kernel_rfl) (by kernel_rfl)
theorem eqi68 : EqI Tryz.prog 68 2 true (1 + 1) := EqI.struct (tot := 2) (fs := #[{ name := "h", type := 3, offset := 0, embedded := false, tag := "", pkgPath := "facet/facetref15", byteOffset := 0 }, { name := "l", type := 3, offset := 1, embedded := false, tag := "", pkgPath := "facet/facetref15", byteOffset := 8 }]) tf68 rfl rfl (by kernel_rfl) (.cons _ _ _ _ _ (by decide) eqi3 (.cons _ _ _ _ _ (by decide) eqi3 (FieldsI.nil _)))
theorem eqk68 : EqOK Tryz.prog 68 := EqI.ok eqi68 (by decide) (by kernel_rfl) (by kernel_rfl)
theorem eqi137 : EqI Tryz.prog 137 1 false 1 := EqI.int tf137 rfl rfl
theorem eqk2 : EqOK Tryz.prog 2 := ⟨by kernel_rfl, .inl (by kernel_rfl)⟩
theorem eqk3 : EqOK Tryz.prog 3 := ⟨by kernel_rfl, .inl (by kernel_rfl)⟩
theorem eqk30 : EqOK Tryz.prog 30 := ⟨by kernel_rfl, .inl (by kernel_rfl)⟩
theorem eqk137 : EqOK Tryz.prog 137 := ⟨by kernel_rfl, .inl (by kernel_rfl)⟩
def eqL : List Nat := [24, 25, 41, 42, 43, 44, 60, 61, 62, 63, 67, 68, 2, 3, 30, 137]
def memN : List Nat → Nat → Bool
  | [], _ => false
  | k :: r, n => match Nat.beq k n with | true => true | false => memN r n
theorem memN_ok : ∀ {l : List Nat} {n : Nat}, memN l n = true → n ∈ l
  | [], n, h => by cases h
  | k :: r, n, h => by
    unfold memN at h
    split at h
    · rename_i hk
      simp [Nat.eq_of_beq_eq_true hk]
    · exact List.mem_cons_of_mem _ (memN_ok h)
theorem eqL_ok : ∀ t, memN eqL t = true → EqOK Tryz.prog t := by
  intro t h
  have := memN_ok h
  simp only [eqL, List.mem_cons, List.not_mem_nil, or_false] at this
  rcases this with rfl | rfl | rfl | rfl | rfl | rfl | rfl | rfl | rfl | rfl | rfl | rfl | rfl | rfl | rfl | rfl
  · exact eqk24
  · exact eqk25
  · exact eqk41
  · exact eqk42
  · exact eqk43
  · exact eqk44
  · exact eqk60
  · exact eqk61
  · exact eqk62
  · exact eqk63
  · exact eqk67
  · exact eqk68
  · exact eqk2
  · exact eqk3
  · exact eqk30
  · exact eqk137
def GL : Nat → Option (List Value) := fun _ => none
end E
end Go.Proofs.YtjhognibibmeiaaGreat
