/-
  What the evaluator asks of this seat's types: closed facts of the loaded program. Printed by a program of this repo's own out of the seat's translation.
-/
import Derived.Test.YtjhognibibmeiaaGreatDoorProg
import Derived.Test.YtjhognibibmeiaaGreatDoorEn
import Derived.KernelRfl
set_option linter.unusedVariables false
namespace Go.Proofs.YtjhognibibmeiaaGreatDoor
namespace E
open Go
def td2 : TD := ⟨.int .i64, 1, 8, [.int .i64 0]⟩
def td3 : TD := ⟨.int .i64, 1, 8, [.int .i64 0]⟩
def td4 : TD := ⟨.bool, 1, 1, [.bool false]⟩
def td5 : TD := ⟨.int .u8, 1, 1, [.int .u8 0]⟩
def td6 : TD := ⟨.int .u8, 1, 1, [.int .u8 0]⟩
def td9 : TD := ⟨.string, 1, 16, [.string ⟨#[]⟩]⟩
def td10 : TD := ⟨.string, 1, 16, [.string ⟨#[]⟩]⟩
def td11 : TD := ⟨.string, 1, 16, [.string ⟨#[]⟩]⟩
def td12 : TD := ⟨.int .u64, 1, 8, [.int .u64 0]⟩
def td21 : TD := ⟨.int .i32, 1, 4, [.int .i32 0]⟩
def td22 : TD := ⟨.slice 58, 1, 24, [.slice none 0 0]⟩
def td23 : TD := ⟨.slice 60, 1, 24, [.slice none 0 0]⟩
def td24 : TD := ⟨.array 3 3, 3, 24, [.int .i64 0, .int .i64 0, .int .i64 0]⟩
def td25 : TD := ⟨.array 3 3, 3, 24, [.int .i64 0, .int .i64 0, .int .i64 0]⟩
def td26 : TD := ⟨.struct #[{ name := "M", type := 3, offset := 0, embedded := false, tag := "", pkgPath := "", byteOffset := 0 }, { name := "X", type := 25, offset := 1, embedded := false, tag := "", pkgPath := "", byteOffset := 8 }], 4, 32, [.int .i64 0, .int .i64 0, .int .i64 0, .int .i64 0]⟩
def td27 : TD := ⟨.struct #[{ name := "M", type := 3, offset := 0, embedded := false, tag := "", pkgPath := "", byteOffset := 0 }, { name := "X", type := 25, offset := 1, embedded := false, tag := "", pkgPath := "", byteOffset := 8 }], 4, 32, [.int .i64 0, .int .i64 0, .int .i64 0, .int .i64 0]⟩
def td29 : TD := ⟨.complex .f64, 1, 16, [.complex .f64 0 0]⟩
def td30 : TD := ⟨.int .i64, 1, 8, [.int .i64 0]⟩
def td41 : TD := ⟨.slice 25, 1, 24, [.slice none 0 0]⟩
def td42 : TD := ⟨.slice 49, 1, 24, [.slice none 0 0]⟩
def td48 : TD := ⟨.struct #[{ name := "H", type := 25, offset := 0, embedded := false, tag := "", pkgPath := "", byteOffset := 0 }, { name := "F", type := 29, offset := 3, embedded := false, tag := "", pkgPath := "", byteOffset := 24 }], 4, 40, [.int .i64 0, .int .i64 0, .int .i64 0, .complex .f64 0 0]⟩
def td49 : TD := ⟨.struct #[{ name := "H", type := 25, offset := 0, embedded := false, tag := "", pkgPath := "", byteOffset := 0 }, { name := "F", type := 29, offset := 3, embedded := false, tag := "", pkgPath := "", byteOffset := 24 }], 4, 40, [.int .i64 0, .int .i64 0, .int .i64 0, .complex .f64 0 0]⟩
def td55 : TD := ⟨.array 3 24, 9, 72, [.int .i64 0, .int .i64 0, .int .i64 0, .int .i64 0, .int .i64 0, .int .i64 0, .int .i64 0, .int .i64 0, .int .i64 0]⟩
def td56 : TD := ⟨.array 3 24, 9, 72, [.int .i64 0, .int .i64 0, .int .i64 0, .int .i64 0, .int .i64 0, .int .i64 0, .int .i64 0, .int .i64 0, .int .i64 0]⟩
def td57 : TD := ⟨.struct #[{ name := "R", type := 56, offset := 0, embedded := false, tag := "", pkgPath := "", byteOffset := 0 }, { name := "T", type := 25, offset := 9, embedded := false, tag := "", pkgPath := "", byteOffset := 72 }], 12, 96, [.int .i64 0, .int .i64 0, .int .i64 0, .int .i64 0, .int .i64 0, .int .i64 0, .int .i64 0, .int .i64 0, .int .i64 0, .int .i64 0, .int .i64 0, .int .i64 0]⟩
def td58 : TD := ⟨.struct #[{ name := "R", type := 56, offset := 0, embedded := false, tag := "", pkgPath := "", byteOffset := 0 }, { name := "T", type := 25, offset := 9, embedded := false, tag := "", pkgPath := "", byteOffset := 72 }], 12, 96, [.int .i64 0, .int .i64 0, .int .i64 0, .int .i64 0, .int .i64 0, .int .i64 0, .int .i64 0, .int .i64 0, .int .i64 0, .int .i64 0, .int .i64 0, .int .i64 0]⟩
def td59 : TD := ⟨.struct #[{ name := "At", type := 27, offset := 0, embedded := false, tag := "", pkgPath := "", byteOffset := 0 }, { name := "Weight", type := 3, offset := 4, embedded := false, tag := "", pkgPath := "", byteOffset := 32 }, { name := "Odd", type := 3, offset := 5, embedded := false, tag := "", pkgPath := "", byteOffset := 40 }], 6, 48, [.int .i64 0, .int .i64 0, .int .i64 0, .int .i64 0, .int .i64 0, .int .i64 0]⟩
def td60 : TD := ⟨.struct #[{ name := "At", type := 27, offset := 0, embedded := false, tag := "", pkgPath := "", byteOffset := 0 }, { name := "Weight", type := 3, offset := 4, embedded := false, tag := "", pkgPath := "", byteOffset := 32 }, { name := "Odd", type := 3, offset := 5, embedded := false, tag := "", pkgPath := "", byteOffset := 40 }], 6, 48, [.int .i64 0, .int .i64 0, .int .i64 0, .int .i64 0, .int .i64 0, .int .i64 0]⟩
def td62 : TD := ⟨.slice 3, 1, 24, [.slice none 0 0]⟩
def td63 : TD := ⟨.struct #[{ name := "M", type := 3, offset := 0, embedded := false, tag := "", pkgPath := "", byteOffset := 0 }, { name := "C", type := 62, offset := 1, embedded := false, tag := "", pkgPath := "", byteOffset := 8 }], 2, 32, [.int .i64 0, .slice none 0 0]⟩
def td64 : TD := ⟨.struct #[{ name := "M", type := 3, offset := 0, embedded := false, tag := "", pkgPath := "", byteOffset := 0 }, { name := "C", type := 62, offset := 1, embedded := false, tag := "", pkgPath := "", byteOffset := 8 }], 2, 32, [.int .i64 0, .slice none 0 0]⟩
def td77 : TD := ⟨.slice 85, 1, 24, [.slice none 0 0]⟩
def td81 : TD := ⟨.float .f64, 1, 8, [.float .f64 0]⟩
def td85 : TD := ⟨.slice 27, 1, 24, [.slice none 0 0]⟩
def td91 : TD := ⟨.struct #[{ name := "h", type := 3, offset := 0, embedded := false, tag := "", pkgPath := "facet/facetref15", byteOffset := 0 }, { name := "l", type := 3, offset := 1, embedded := false, tag := "", pkgPath := "facet/facetref15", byteOffset := 8 }], 2, 16, [.int .i64 0, .int .i64 0]⟩
def td92 : TD := ⟨.struct #[{ name := "h", type := 3, offset := 0, embedded := false, tag := "", pkgPath := "facet/facetref15", byteOffset := 0 }, { name := "l", type := 3, offset := 1, embedded := false, tag := "", pkgPath := "facet/facetref15", byteOffset := 8 }], 2, 16, [.int .i64 0, .int .i64 0]⟩
def td94 : TD := ⟨.slice 92, 1, 24, [.slice none 0 0]⟩
def td95 : TD := ⟨.slice 30, 1, 24, [.slice none 0 0]⟩
def td97 : TD := ⟨.map 58 3, 1, 8, [.map none]⟩
def td102 : TD := ⟨.slice 29, 1, 24, [.slice none 0 0]⟩
def td113 : TD := ⟨.int .u64, 1, 8, [.int .u64 0]⟩
def td134 : TD := ⟨.int .u64, 1, 8, [.int .u64 0]⟩
def td141 : TD := ⟨.array 48 113, 48, 384, [.int .u64 0, .int .u64 0, .int .u64 0, .int .u64 0, .int .u64 0, .int .u64 0, .int .u64 0, .int .u64 0, .int .u64 0, .int .u64 0, .int .u64 0, .int .u64 0, .int .u64 0, .int .u64 0, .int .u64 0, .int .u64 0, .int .u64 0, .int .u64 0, .int .u64 0, .int .u64 0, .int .u64 0, .int .u64 0, .int .u64 0, .int .u64 0, .int .u64 0, .int .u64 0, .int .u64 0, .int .u64 0, .int .u64 0, .int .u64 0, .int .u64 0, .int .u64 0, .int .u64 0, .int .u64 0, .int .u64 0, .int .u64 0, .int .u64 0, .int .u64 0, .int .u64 0, .int .u64 0, .int .u64 0, .int .u64 0, .int .u64 0, .int .u64 0, .int .u64 0, .int .u64 0, .int .u64 0, .int .u64 0]⟩
def td150 : TD := ⟨.array 49 113, 49, 392, [.int .u64 0, .int .u64 0, .int .u64 0, .int .u64 0, .int .u64 0, .int .u64 0, .int .u64 0, .int .u64 0, .int .u64 0, .int .u64 0, .int .u64 0, .int .u64 0, .int .u64 0, .int .u64 0, .int .u64 0, .int .u64 0, .int .u64 0, .int .u64 0, .int .u64 0, .int .u64 0, .int .u64 0, .int .u64 0, .int .u64 0, .int .u64 0, .int .u64 0, .int .u64 0, .int .u64 0, .int .u64 0, .int .u64 0, .int .u64 0, .int .u64 0, .int .u64 0, .int .u64 0, .int .u64 0, .int .u64 0, .int .u64 0, .int .u64 0, .int .u64 0, .int .u64 0, .int .u64 0, .int .u64 0, .int .u64 0, .int .u64 0, .int .u64 0, .int .u64 0, .int .u64 0, .int .u64 0, .int .u64 0, .int .u64 0]⟩
def td161 : TD := ⟨.int .i64, 1, 8, [.int .i64 0]⟩
def td168 : TD := ⟨.int .u32, 1, 4, [.int .u32 0]⟩
def td171 : TD := ⟨.int .u64, 1, 8, [.int .u64 0]⟩
def td183 : TD := ⟨.array 0 16, 0, 0, []⟩
def td187 : TD := ⟨.int .u8, 1, 1, [.int .u8 0]⟩
def td188 : TD := ⟨.int .u8, 1, 1, [.int .u8 0]⟩
def td191 : TD := ⟨.int .i32, 1, 4, [.int .i32 0]⟩
def td192 : TD := ⟨.int .i32, 1, 4, [.int .i32 0]⟩
def tabL : List (Nat × TD) := [(2, td2), (3, td3), (4, td4), (5, td5), (6, td6), (9, td9), (10, td10), (11, td11), (12, td12), (21, td21), (22, td22), (23, td23), (24, td24), (25, td25), (26, td26), (27, td27), (29, td29), (30, td30), (41, td41), (42, td42), (48, td48), (49, td49), (55, td55), (56, td56), (57, td57), (58, td58), (59, td59), (60, td60), (62, td62), (63, td63), (64, td64), (77, td77), (81, td81), (85, td85), (91, td91), (92, td92), (94, td94), (95, td95), (97, td97), (102, td102), (113, td113), (134, td134), (141, td141), (150, td150), (161, td161), (168, td168), (171, td171), (183, td183), (187, td187), (188, td188), (191, td191), (192, td192)]
def findT : List (Nat × TD) → Nat → Option TD
  | [], _ => none
  | (k, d) :: r, n => match Nat.beq k n with | true => some d | false => findT r n
def tabT : Nat → Option TD := findT tabL
theorem findT_ok {P : Program} : ∀ {l : List (Nat × TD)}, (∀ e ∈ l, Facts P e.1 e.2) → ∀ t d, findT l t = some d → Facts P t d
  | [], _, t, d, h => by cases h
  | (k, e) :: r, hl, t, d, h => by
    unfold findT at h
    split at h
    · rename_i hk
      have := Nat.eq_of_beq_eq_true hk
      subst this
      injection h with h
      subst h
      exact hl (k, e) (by simp)
    · exact findT_ok (fun e he => hl e (by simp [he])) t d h
theorem Facts.closed {P : Program} {t : Nat} {d : TD} (hu : P.underlying t = some d.desc)
    (hi : (P.info? t).map (fun i => (i.size, i.bytes, i.zero.map fun z => z.cells.toList)) = some (d.sz, d.bytes, some d.zero))
    (hs : (P.info? t).map (fun i => match i.zero with | some (.agg _) => true | _ => false) = some d.isAgg)
    (h1 : d.zero.all (·.oneCell') = true) (hl : d.zero.length = d.sz) : Facts P t d := by
  refine ⟨hu, ?_, h1, hl, ?_⟩
  · cases hq : P.info? t with
    | none => rw [hq] at hi; cases hi
    | some i =>
      rw [hq] at hi
      simp only [Option.map_some, Option.some.injEq, Prod.mk.injEq] at hi
      obtain ⟨e1, e2, e3⟩ := hi
      cases hz : i.zero with
      | none => rw [hz] at e3; cases e3
      | some z =>
        rw [hz] at e3
        simp only [Option.map_some, Option.some.injEq] at e3
        exact ⟨i, z, rfl, e1, e2, hz, e3⟩
  · cases ha : d.isAgg with
    | true => exact .inl rfl
    | false =>
      refine .inr fun i hi' cs hz => ?_
      rw [hi', Option.map_some, hz, ha] at hs
      cases hs
theorem tf2 : Facts Tryz.prog 2 td2 := Facts.closed (by kernel_rfl) (by kernel_rfl) (by kernel_rfl) rfl rfl
theorem tf3 : Facts Tryz.prog 3 td3 := Facts.closed (by kernel_rfl) (by kernel_rfl) (by kernel_rfl) rfl rfl
theorem tf4 : Facts Tryz.prog 4 td4 := Facts.closed (by kernel_rfl) (by kernel_rfl) (by kernel_rfl) rfl rfl
theorem tf5 : Facts Tryz.prog 5 td5 := Facts.closed (by kernel_rfl) (by kernel_rfl) (by kernel_rfl) rfl rfl
theorem tf6 : Facts Tryz.prog 6 td6 := Facts.closed (by kernel_rfl) (by kernel_rfl) (by kernel_rfl) rfl rfl
theorem tf9 : Facts Tryz.prog 9 td9 := Facts.closed (by kernel_rfl) (by kernel_rfl) (by kernel_rfl) rfl rfl
theorem tf10 : Facts Tryz.prog 10 td10 := Facts.closed (by kernel_rfl) (by kernel_rfl) (by kernel_rfl) rfl rfl
theorem tf11 : Facts Tryz.prog 11 td11 := Facts.closed (by kernel_rfl) (by kernel_rfl) (by kernel_rfl) rfl rfl
theorem tf12 : Facts Tryz.prog 12 td12 := Facts.closed (by kernel_rfl) (by kernel_rfl) (by kernel_rfl) rfl rfl
theorem tf21 : Facts Tryz.prog 21 td21 := Facts.closed (by kernel_rfl) (by kernel_rfl) (by kernel_rfl) rfl rfl
theorem tf22 : Facts Tryz.prog 22 td22 := Facts.closed (by kernel_rfl) (by kernel_rfl) (by kernel_rfl) rfl rfl
theorem tf23 : Facts Tryz.prog 23 td23 := Facts.closed (by kernel_rfl) (by kernel_rfl) (by kernel_rfl) rfl rfl
theorem tf24 : Facts Tryz.prog 24 td24 := Facts.closed (by kernel_rfl) (by kernel_rfl) (by kernel_rfl) rfl rfl
theorem tf25 : Facts Tryz.prog 25 td25 := Facts.closed (by kernel_rfl) (by kernel_rfl) (by kernel_rfl) rfl rfl
theorem tf26 : Facts Tryz.prog 26 td26 := Facts.closed (by kernel_rfl) (by kernel_rfl) (by kernel_rfl) rfl rfl
theorem tf27 : Facts Tryz.prog 27 td27 := Facts.closed (by kernel_rfl) (by kernel_rfl) (by kernel_rfl) rfl rfl
theorem tf29 : Facts Tryz.prog 29 td29 := Facts.closed (by kernel_rfl) (by kernel_rfl) (by kernel_rfl) rfl rfl
theorem tf30 : Facts Tryz.prog 30 td30 := Facts.closed (by kernel_rfl) (by kernel_rfl) (by kernel_rfl) rfl rfl
theorem tf41 : Facts Tryz.prog 41 td41 := Facts.closed (by kernel_rfl) (by kernel_rfl) (by kernel_rfl) rfl rfl
theorem tf42 : Facts Tryz.prog 42 td42 := Facts.closed (by kernel_rfl) (by kernel_rfl) (by kernel_rfl) rfl rfl
theorem tf48 : Facts Tryz.prog 48 td48 := Facts.closed (by kernel_rfl) (by kernel_rfl) (by kernel_rfl) rfl rfl
theorem tf49 : Facts Tryz.prog 49 td49 := Facts.closed (by kernel_rfl) (by kernel_rfl) (by kernel_rfl) rfl rfl
theorem tf55 : Facts Tryz.prog 55 td55 := Facts.closed (by kernel_rfl) (by kernel_rfl) (by kernel_rfl) rfl rfl
theorem tf56 : Facts Tryz.prog 56 td56 := Facts.closed (by kernel_rfl) (by kernel_rfl) (by kernel_rfl) rfl rfl
theorem tf57 : Facts Tryz.prog 57 td57 := Facts.closed (by kernel_rfl) (by kernel_rfl) (by kernel_rfl) rfl rfl
theorem tf58 : Facts Tryz.prog 58 td58 := Facts.closed (by kernel_rfl) (by kernel_rfl) (by kernel_rfl) rfl rfl
theorem tf59 : Facts Tryz.prog 59 td59 := Facts.closed (by kernel_rfl) (by kernel_rfl) (by kernel_rfl) rfl rfl
theorem tf60 : Facts Tryz.prog 60 td60 := Facts.closed (by kernel_rfl) (by kernel_rfl) (by kernel_rfl) rfl rfl
theorem tf62 : Facts Tryz.prog 62 td62 := Facts.closed (by kernel_rfl) (by kernel_rfl) (by kernel_rfl) rfl rfl
theorem tf63 : Facts Tryz.prog 63 td63 := Facts.closed (by kernel_rfl) (by kernel_rfl) (by kernel_rfl) rfl rfl
theorem tf64 : Facts Tryz.prog 64 td64 := Facts.closed (by kernel_rfl) (by kernel_rfl) (by kernel_rfl) rfl rfl
theorem tf77 : Facts Tryz.prog 77 td77 := Facts.closed (by kernel_rfl) (by kernel_rfl) (by kernel_rfl) rfl rfl
theorem tf81 : Facts Tryz.prog 81 td81 := Facts.closed (by kernel_rfl) (by kernel_rfl) (by kernel_rfl) rfl rfl
theorem tf85 : Facts Tryz.prog 85 td85 := Facts.closed (by kernel_rfl) (by kernel_rfl) (by kernel_rfl) rfl rfl
theorem tf91 : Facts Tryz.prog 91 td91 := Facts.closed (by kernel_rfl) (by kernel_rfl) (by kernel_rfl) rfl rfl
theorem tf92 : Facts Tryz.prog 92 td92 := Facts.closed (by kernel_rfl) (by kernel_rfl) (by kernel_rfl) rfl rfl
theorem tf94 : Facts Tryz.prog 94 td94 := Facts.closed (by kernel_rfl) (by kernel_rfl) (by kernel_rfl) rfl rfl
theorem tf95 : Facts Tryz.prog 95 td95 := Facts.closed (by kernel_rfl) (by kernel_rfl) (by kernel_rfl) rfl rfl
theorem tf97 : Facts Tryz.prog 97 td97 := Facts.closed (by kernel_rfl) (by kernel_rfl) (by kernel_rfl) rfl rfl
theorem tf102 : Facts Tryz.prog 102 td102 := Facts.closed (by kernel_rfl) (by kernel_rfl) (by kernel_rfl) rfl rfl
theorem tf113 : Facts Tryz.prog 113 td113 := Facts.closed (by kernel_rfl) (by kernel_rfl) (by kernel_rfl) rfl rfl
theorem tf134 : Facts Tryz.prog 134 td134 := Facts.closed (by kernel_rfl) (by kernel_rfl) (by kernel_rfl) rfl rfl
theorem tf141 : Facts Tryz.prog 141 td141 := Facts.closed (by kernel_rfl) (by kernel_rfl) (by kernel_rfl) rfl rfl
theorem tf150 : Facts Tryz.prog 150 td150 := Facts.closed (by kernel_rfl) (by kernel_rfl) (by kernel_rfl) rfl rfl
theorem tf161 : Facts Tryz.prog 161 td161 := Facts.closed (by kernel_rfl) (by kernel_rfl) (by kernel_rfl) rfl rfl
theorem tf168 : Facts Tryz.prog 168 td168 := Facts.closed (by kernel_rfl) (by kernel_rfl) (by kernel_rfl) rfl rfl
theorem tf171 : Facts Tryz.prog 171 td171 := Facts.closed (by kernel_rfl) (by kernel_rfl) (by kernel_rfl) rfl rfl
theorem tf183 : Facts Tryz.prog 183 td183 := Facts.closed (by kernel_rfl) (by kernel_rfl) (by kernel_rfl) rfl rfl
theorem tf187 : Facts Tryz.prog 187 td187 := Facts.closed (by kernel_rfl) (by kernel_rfl) (by kernel_rfl) rfl rfl
theorem tf188 : Facts Tryz.prog 188 td188 := Facts.closed (by kernel_rfl) (by kernel_rfl) (by kernel_rfl) rfl rfl
theorem tf191 : Facts Tryz.prog 191 td191 := Facts.closed (by kernel_rfl) (by kernel_rfl) (by kernel_rfl) rfl rfl
theorem tf192 : Facts Tryz.prog 192 td192 := Facts.closed (by kernel_rfl) (by kernel_rfl) (by kernel_rfl) rfl rfl
theorem tabT_ok : ∀ t d, tabT t = some d → Facts Tryz.prog t d := findT_ok (by
  intro e he
  simp only [tabL, List.mem_cons, List.not_mem_nil, or_false] at he
  rcases he with rfl | rfl | rfl | rfl | rfl | rfl | rfl | rfl | rfl | rfl | rfl | rfl | rfl | rfl | rfl | rfl | rfl | rfl | rfl | rfl | rfl | rfl | rfl | rfl | rfl | rfl | rfl | rfl | rfl | rfl | rfl | rfl | rfl | rfl | rfl | rfl | rfl | rfl | rfl | rfl | rfl | rfl | rfl | rfl | rfl | rfl | rfl | rfl | rfl | rfl | rfl | rfl
  · exact tf2
  · exact tf3
  · exact tf4
  · exact tf5
  · exact tf6
  · exact tf9
  · exact tf10
  · exact tf11
  · exact tf12
  · exact tf21
  · exact tf22
  · exact tf23
  · exact tf24
  · exact tf25
  · exact tf26
  · exact tf27
  · exact tf29
  · exact tf30
  · exact tf41
  · exact tf42
  · exact tf48
  · exact tf49
  · exact tf55
  · exact tf56
  · exact tf57
  · exact tf58
  · exact tf59
  · exact tf60
  · exact tf62
  · exact tf63
  · exact tf64
  · exact tf77
  · exact tf81
  · exact tf85
  · exact tf91
  · exact tf92
  · exact tf94
  · exact tf95
  · exact tf97
  · exact tf102
  · exact tf113
  · exact tf134
  · exact tf141
  · exact tf150
  · exact tf161
  · exact tf168
  · exact tf171
  · exact tf183
  · exact tf187
  · exact tf188
  · exact tf191
  · exact tf192)
theorem eqi2 : EqI Tryz.prog 2 1 false 1 := EqI.int tf2 rfl rfl
theorem eqi3 : EqI Tryz.prog 3 1 false 1 := EqI.int tf3 rfl rfl
theorem eqi24 : EqI Tryz.prog 24 (3 * 1) true (1 + 1) := EqI.array tf24 rfl rfl tf3 rfl eqi3
theorem eqk24 : EqOK Tryz.prog 24 := EqI.ok eqi24 (by decide) (by kernel_rfl) (by kernel_rfl)
theorem eqi25 : EqI Tryz.prog 25 (3 * 1) true (1 + 1) := EqI.array tf25 rfl rfl tf3 rfl eqi3
theorem eqk25 : EqOK Tryz.prog 25 := EqI.ok eqi25 (by decide) (by kernel_rfl) (by kernel_rfl)
theorem eqi26 : EqI Tryz.prog 26 4 true (2 + 1) := EqI.struct (tot := 4) (fs := #[{ name := "M", type := 3, offset := 0, embedded := false, tag := "", pkgPath := "", byteOffset := 0 }, { name := "X", type := 25, offset := 1, embedded := false, tag := "", pkgPath := "", byteOffset := 8 }]) tf26 rfl rfl (by kernel_rfl) (.cons _ _ _ _ _ (by decide) (eqi3).up (.cons _ _ _ _ _ (by decide) eqi25 (FieldsI.nil _)))
theorem eqk26 : EqOK Tryz.prog 26 := EqI.ok eqi26 (by decide) (by kernel_rfl) (by kernel_rfl)
theorem eqi27 : EqI Tryz.prog 27 4 true (2 + 1) := EqI.struct (tot := 4) (fs := #[{ name := "M", type := 3, offset := 0, embedded := false, tag := "", pkgPath := "", byteOffset := 0 }, { name := "X", type := 25, offset := 1, embedded := false, tag := "", pkgPath := "", byteOffset := 8 }]) tf27 rfl rfl (by kernel_rfl) (.cons _ _ _ _ _ (by decide) (eqi3).up (.cons _ _ _ _ _ (by decide) eqi25 (FieldsI.nil _)))
theorem eqk27 : EqOK Tryz.prog 27 := EqI.ok eqi27 (by decide) (by kernel_rfl) (by kernel_rfl)
theorem eqi30 : EqI Tryz.prog 30 1 false 1 := EqI.int tf30 rfl rfl
theorem eqi55 : EqI Tryz.prog 55 (3 * 3) true (2 + 1) := EqI.array tf55 rfl rfl tf24 rfl eqi24
theorem eqk55 : EqOK Tryz.prog 55 := EqI.ok eqi55 (by decide) (by kernel_rfl) (by kernel_rfl)
theorem eqi56 : EqI Tryz.prog 56 (3 * 3) true (2 + 1) := EqI.array tf56 rfl rfl tf24 rfl eqi24
theorem eqk56 : EqOK Tryz.prog 56 := EqI.ok eqi56 (by decide) (by kernel_rfl) (by kernel_rfl)
theorem eqi57 : EqI Tryz.prog 57 12 true (3 + 1) := EqI.struct (tot := 12) (fs := #[{ name := "R", type := 56, offset := 0, embedded := false, tag := "", pkgPath := "", byteOffset := 0 }, { name := "T", type := 25, offset := 9, embedded := false, tag := "", pkgPath := "", byteOffset := 72 }]) tf57 rfl rfl (by kernel_rfl) (.cons _ _ _ _ _ (by decide) eqi56 (.cons _ _ _ _ _ (by decide) (eqi25).up (FieldsI.nil _)))
theorem eqk57 : EqOK Tryz.prog 57 := EqI.ok eqi57 (by decide) (by kernel_rfl) (by kernel_rfl)
theorem eqi58 : EqI Tryz.prog 58 12 true (3 + 1) := EqI.struct (tot := 12) (fs := #[{ name := "R", type := 56, offset := 0, embedded := false, tag := "", pkgPath := "", byteOffset := 0 }, { name := "T", type := 25, offset := 9, embedded := false, tag := "", pkgPath := "", byteOffset := 72 }]) tf58 rfl rfl (by kernel_rfl) (.cons _ _ _ _ _ (by decide) eqi56 (.cons _ _ _ _ _ (by decide) (eqi25).up (FieldsI.nil _)))
theorem eqk58 : EqOK Tryz.prog 58 := EqI.ok eqi58 (by decide) (by kernel_rfl) (by kernel_rfl)
theorem eqi59 : EqI Tryz.prog 59 6 true (3 + 1) := EqI.struct (tot := 6) (fs := #[{ name := "At", type := 27, offset := 0, embedded := false, tag := "", pkgPath := "", byteOffset := 0 }, { name := "Weight", type := 3, offset := 4, embedded := false, tag := "", pkgPath := "", byteOffset := 32 }, { name := "Odd", type := 3, offset := 5, embedded := false, tag := "", pkgPath := "", byteOffset := 40 }]) tf59 rfl rfl (by kernel_rfl) (.cons _ _ _ _ _ (by decide) eqi27 (.cons _ _ _ _ _ (by decide) ((eqi3).up).up (.cons _ _ _ _ _ (by decide) ((eqi3).up).up (FieldsI.nil _))))
theorem eqk59 : EqOK Tryz.prog 59 := EqI.ok eqi59 (by decide) (by kernel_rfl) (by kernel_rfl)
theorem eqi60 : EqI Tryz.prog 60 6 true (3 + 1) := EqI.struct (tot := 6) (fs := #[{ name := "At", type := 27, offset := 0, embedded := false, tag := "", pkgPath := "", byteOffset := 0 }, { name := "Weight", type := 3, offset := 4, embedded := false, tag := "", pkgPath := "", byteOffset := 32 }, { name := "Odd", type := 3, offset := 5, embedded := false, tag := "", pkgPath := "", byteOffset := 40 }]) tf60 rfl rfl (by kernel_rfl) (.cons _ _ _ _ _ (by decide) eqi27 (.cons _ _ _ _ _ (by decide) ((eqi3).up).up (.cons _ _ _ _ _ (by decide) ((eqi3).up).up (FieldsI.nil _))))
theorem eqk60 : EqOK Tryz.prog 60 := EqI.ok eqi60 (by decide) (by kernel_rfl) (by kernel_rfl)
theorem eqi91 : EqI Tryz.prog 91 2 true (1 + 1) := EqI.struct (tot := 2) (fs := #[{ name := "h", type := 3, offset := 0, embedded := false, tag := "", pkgPath := "facet/facetref15", byteOffset := 0 }, { name := "l", type := 3, offset := 1, embedded := false, tag := "", pkgPath := "facet/facetref15", byteOffset := 8 }]) tf91 rfl rfl (by kernel_rfl) (.cons _ _ _ _ _ (by decide) eqi3 (.cons _ _ _ _ _ (by decide) eqi3 (FieldsI.nil _)))
theorem eqk91 : EqOK Tryz.prog 91 := EqI.ok eqi91 (by decide) (by kernel_rfl) (by kernel_rfl)
theorem eqi92 : EqI Tryz.prog 92 2 true (1 + 1) := EqI.struct (tot := 2) (fs := #[{ name := "h", type := 3, offset := 0, embedded := false, tag := "", pkgPath := "facet/facetref15", byteOffset := 0 }, { name := "l", type := 3, offset := 1, embedded := false, tag := "", pkgPath := "facet/facetref15", byteOffset := 8 }]) tf92 rfl rfl (by kernel_rfl) (.cons _ _ _ _ _ (by decide) eqi3 (.cons _ _ _ _ _ (by decide) eqi3 (FieldsI.nil _)))
theorem eqk92 : EqOK Tryz.prog 92 := EqI.ok eqi92 (by decide) (by kernel_rfl) (by kernel_rfl)
theorem eqi161 : EqI Tryz.prog 161 1 false 1 := EqI.int tf161 rfl rfl
theorem eqk2 : EqOK Tryz.prog 2 := ⟨by kernel_rfl, .inl (by kernel_rfl)⟩
theorem eqk3 : EqOK Tryz.prog 3 := ⟨by kernel_rfl, .inl (by kernel_rfl)⟩
theorem eqk30 : EqOK Tryz.prog 30 := ⟨by kernel_rfl, .inl (by kernel_rfl)⟩
theorem eqk161 : EqOK Tryz.prog 161 := ⟨by kernel_rfl, .inl (by kernel_rfl)⟩
def eqL : List Nat := [24, 25, 26, 27, 55, 56, 57, 58, 59, 60, 91, 92, 2, 3, 30, 161]
def memN : List Nat → Nat → Bool
  | [], _ => false
  | k :: r, n => match Nat.beq k n with | true => true | false => memN r n
theorem memN_ok : ∀ {l : List Nat} {n : Nat}, memN l n = true → n ∈ l
  | [], n, h => by cases h
  | k :: r, n, h => by
    unfold memN at h
    split at h
    · rename_i hk
      simp [Nat.eq_of_beq_eq_true hk]
    · exact List.mem_cons_of_mem _ (memN_ok h)
theorem eqL_ok : ∀ t, memN eqL t = true → EqOK Tryz.prog t := by
  intro t h
  have := memN_ok h
  simp only [eqL, List.mem_cons, List.not_mem_nil, or_false] at this
  rcases this with rfl | rfl | rfl | rfl | rfl | rfl | rfl | rfl | rfl | rfl | rfl | rfl | rfl | rfl | rfl | rfl
  · exact eqk24
  · exact eqk25
  · exact eqk26
  · exact eqk27
  · exact eqk55
  · exact eqk56
  · exact eqk57
  · exact eqk58
  · exact eqk59
  · exact eqk60
  · exact eqk91
  · exact eqk92
  · exact eqk2
  · exact eqk3
  · exact eqk30
  · exact eqk161
def gl1 : List Value := [.int .u64 4607182418800017408, .int .u64 4607177596232733550, .int .u64 4607163133695007814, .int .u64 4607139046673687846, .int .u64 4607105360961759387, .int .u64 4607062112630726507, .int .u64 4607009347991985328, .int .u64 4606947123547232624, .int .u64 4606875505927962389, .int .u64 4606794571824115162, .int .u64 4606704407901956523, .int .u64 4606605110711272677, .int .u64 4606496786581982534, .int .u64 4606379551510276960, .int .u64 4606253531034407156, .int .u64 4606118860100255153, .int .u64 4605975682916830378, .int .u64 4605824152801847042, .int .u64 4605664432017547683, .int .u64 4605496691596948699, .int .u64 4605321111160693906, .int .u64 4605137878724712257, .int .u64 4604947190498885672, .int .u64 4604749250676942587, .int .u64 4604544271217802189, .int .u64 4604332471618603501, .int .u64 4604114078679662348, .int .u64 4603889326261607894, .int .u64 4603658455034958826, .int .u64 4603421712222407333, .int .u64 4603179351334086856, .int .u64 4602931631896107088, .int .u64 4602678819172646912, .int .u64 4602163548591158843, .int .u64 4601639184639747836, .int .u64 4601106288820466945, .int .u64 4600565431771507043, .int .u64 4600017192656143146, .int .u64 4599462158542551880, .int .u64 4598900923775164166, .int .u64 4598334089338226320, .int .u64 4597349304879225727, .int .u64 4596196889902818827, .int .u64 4595036948236777107, .int .u64 4593870721975689937, .int .u64 4591727299969791020, .int .u64 4589377212798040715, .int .u64 4584876137810324206, .int .u64 0]
def GL : Nat → Option (List Value)
  | 1 => some gl1
  | _ => none
end E
end Go.Proofs.YtjhognibibmeiaaGreatDoor
