/-
  THE EVALUATOR, seventeenth part: an operation's kind; two that may change places; each order that is allowed comes to the same.
-/
import Derived.Test.YtjhognibibmeiaaGreatDoorEp
set_option linter.unusedVariables false
namespace Go.Proofs.YtjhognibibmeiaaGreatDoor
namespace E
open Go Go.RowKit

section
variable {X : Ctx} {t t' : List LV} {q : Nat → Nat} {aq : Nat}

theorem cls_ok (hq : ∀ g, CSpec (q g) (X.C g)) (ha : ∀ g, CSpec aq (X.C g)) (op : Op) : IsC (cls q aq op) (fun h K => opVal X t h op K) := by
  cases op
  case move x => exact (IsP.of Fun1.opd).c _
  case assign x => exact (IsP.of Fun1.opd).c _
  case pick c a b => exact (IsP.of (Fun1.bind (F := opdK X t c) (G := fun cv k => condB cv (opdK X t a k) (opdK X t b k)) Fun1.opd fun cv => Fun1.cond Fun1.opd Fun1.opd)).c _
  case build ty ps => exact (IsP.of (Fun1.bind (F := opVal.partsK X t ps.toList) (G := fun l k => buildK X ty l k) Fun1.parts fun l => Fun1.build)).c _
  case nilCheck x =>
    refine (IsP.of (F1 := fun k => opdK X t x fun v => match v with | .ptr .. | .eptr .. | .clo .. => k v | _ => False) ?_).c _
    refine Fun1.bind (F := opdK X t x) (G := fun v k => match v with | .ptr .. | .eptr .. | .clo .. => k v | _ => False) Fun1.opd fun v => ?_
    cases v <;> first | exact Fun1.pure _ | exact Fun1.false
  case binOp op ty x y ty' => exact (IsP.of (Fun1.bind (F := opdK X t x) (G := fun a k => opdK X t y fun b => binK X op ty a b k) Fun1.opd fun a => Fun1.bind Fun1.opd fun b => Fun1.bin)).c _
  case unOp op ty x => exact (IsP.of (Fun1.bind (F := opdK X t x) (G := fun a k => unK op a k) Fun1.opd fun a => Fun1.un)).c _
  case convert s d x => exact (IsP.of (Fun1.bind (F := opdK X t x) (G := fun a k => tdK X s fun _ => convK X s d a k) Fun1.opd fun a => Fun1.bind Fun1.td fun _ => Fun1.conv)).c _
  case makeFunc f first caps =>
    cases f with
    | func f =>
      refine (IsP.of (F1 := fun k => opdsK X t caps.toList fun vs => match first.toList with | [] => k (.clo f vs) | _ :: _ => False) ?_).c _
      refine Fun1.bind (F := opdsK X t caps.toList) (G := fun vs k => match first.toList with | [] => k (LV.clo f vs) | _ :: _ => False) Fun1.opds fun vs => ?_
      cases first.toList <;> first | exact Fun1.pure _ | exact Fun1.false
    | _ => exact isC_none _
  case fieldAddr ty x f =>
    refine (IsP.of (F1 := fun k => opdK X t x fun p => fieldK X ty f fun off df => match decide (0 < df.sz) with | .false => False | .true => match p with | .ptr id i sub => k (.ptr id i (sub + off)) | .eptr e sub => k (.eptr e (sub + off)) | _ => False) ?_).c _
    refine Fun1.bind (F := opdK X t x) (G := fun p k => fieldK X ty f fun off df => match decide (0 < df.sz) with | .false => False | .true => match p with | .ptr id i sub => k (LV.ptr id i (sub + off)) | .eptr e sub => k (LV.eptr e (sub + off)) | _ => False) Fun1.opd fun p => ?_
    refine Fun1.field (K := fun off df k => match decide (0 < df.sz) with | .false => False | .true => match p with | .ptr id i sub => k (LV.ptr id i (sub + off)) | .eptr e sub => k (LV.eptr e (sub + off)) | _ => False) fun off df => ?_
    cases decide (0 < df.sz)
    · exact Fun1.false
    · cases p <;> first | exact Fun1.pure _ | exact Fun1.false
  case field ty x f =>
    refine (IsP.of (F1 := fun k => opdK X t x fun v => fieldK X ty f fun off df => match v with | .agg cs => partK df cs off fun r => k r | _ => False) ?_).c _
    refine Fun1.bind (F := opdK X t x) (G := fun v k => fieldK X ty f fun off df => match v with | .agg cs => partK df cs off fun r => k r | _ => False) Fun1.opd fun v => ?_
    refine Fun1.field (K := fun off df k => match v with | .agg cs => partK df cs off fun r => k r | _ => False) fun off df => ?_
    cases v <;> first | exact Fun1.part | exact Fun1.false
  case index ty x i =>
    refine (IsP.of (F1 := fun k => opdK X t x fun p => opdK X t i fun iv => match iv with | .v (.int _ n) => idxK X ty p n fun v => k v | _ => False) ?_).c _
    refine Fun1.bind (F := opdK X t x) (G := fun p k => opdK X t i fun iv => match iv with | .v (.int _ n) => idxK X ty p n fun v => k v | _ => False) Fun1.opd fun p => ?_
    refine Fun1.bind (F := opdK X t i) (G := fun iv k => match iv with | .v (.int _ n) => idxK X ty p n fun v => k v | _ => False) Fun1.opd fun iv => ?_
    intro k hk
    split at hk
    · exact Fun1.idxv _ hk
    · exact hk.elim
  case extract x i =>
    refine (IsP.of (F1 := fun k => opdK X t x fun v => match v with | .tup vs => getK vs i fun r => k r | _ => False) ?_).c _
    refine Fun1.bind (F := opdK X t x) (G := fun v k => match v with | .tup vs => getK vs i fun r => k r | _ => False) Fun1.opd fun v => ?_
    cases v <;> first | exact Fun1.get | exact Fun1.false
  case load ty a => exact (IsR.bind Fun1.opd fun p => isR_load).c (Nat.le_refl _)
  case indexAddr ty x i =>
    refine IsR.c ?_ (Nat.le_refl _)
    refine IsR.bind (F := opdK X t x) (G := fun p h K => opdK X t i fun iv => match iv with | .v (.int _ n) => idxAddrK X h ty p n fun v => K v h | _ => False) Fun1.opd fun p => ?_
    refine IsR.bind (F := opdK X t i) (G := fun iv h K => match iv with | .v (.int _ n) => idxAddrK X h ty p n fun v => K v h | _ => False) Fun1.opd fun iv => ?_
    intro h K hk
    split at hk
    · exact isR_idxAddr h K hk
    · exact hk.elim
  case alloc e => exact (IsA.bind (F := tdK X e) (G := fun d h K => snocK h (.box (d.zero.map .v)) fun n h' => K (LV.ptr n 0 0) h') Fun1.td fun d => isA_snoc).c (Nat.le_refl _)
  case box e x =>
    refine IsA.c ?_ (Nat.le_refl _)
    refine IsA.bind (F := tdK X e) (G := fun d h K => opdK X t x fun v => cellsK v fun cs => match decide (cs.length = d.sz) with | .true => snocK h (.box cs) fun n h' => K (LV.ptr n 0 0) h' | .false => False) Fun1.td fun d => ?_
    refine IsA.bind (F := opdK X t x) (G := fun v h K => cellsK v fun cs => match decide (cs.length = d.sz) with | .true => snocK h (.box cs) fun n h' => K (LV.ptr n 0 0) h' | .false => False) Fun1.opd fun v => ?_
    refine IsA.bind (F := cellsK v) (G := fun cs h K => match decide (cs.length = d.sz) with | .true => snocK h (.box cs) fun n h' => K (LV.ptr n 0 0) h' | .false => False) Fun1.cells fun cs => ?_
    cases decide (cs.length = d.sz)
    · exact IsR.no.a
    · exact isA_snoc
  case buildSlice ty len ps => exact (IsA.bind (F := opVal.partsK X t ps.toList) (G := fun l h K => buildSliceK X h ty len l K) Fun1.parts fun l => isA_buildSlice).c (Nat.le_refl _)
  case store ty a x => exact (IsF.bind (F := opdK X t a) (G := fun p h K => opdK X t x fun v => storeK X h ty p v fun h' => K (LV.v undefV) h') Fun1.opd fun p => IsF.bind Fun1.opd fun v => isF_store).c (Nat.le_refl _)
  case call c =>
    obtain ⟨callee, args, tys⟩ := c
    cases callee with
    | value f =>
      have main : ∀ c, (∀ g caps, opdK X t f (fun fv => fv = .clo g caps) → CSpec c (X.C g)) → IsC (low c) (fun h K => opVal X t h (.call ⟨.value f, args, tys⟩) K) := by
        intro c hr
        have hl : low c ≠ 0 := by unfold low; split <;> simp
        refine ⟨fun h0 => absurd h0 hl, fun hc h K hk => ?_, fun hc h K hk => ?_, fun hc h K hk => ?_⟩
        · obtain ⟨fv, hk, h2⟩ := Fun1.opd _ hk
          obtain ⟨vs, hk, h4⟩ := Fun1.opds _ hk
          cases fv with
          | clo g caps =>
            obtain ⟨v, h5, h6⟩ := (hr g caps (h2 _ rfl) (vs ++ caps)).2.1 hc h K hk
            exact ⟨v, h5, fun bs K' hk' => h2 _ (h4 _ (h6 bs K' hk'))⟩
          | _ => exact hk.elim
        · obtain ⟨fv, hk, h2⟩ := Fun1.opd _ hk
          obtain ⟨vs, hk, h4⟩ := Fun1.opds _ hk
          cases fv with
          | clo g caps =>
            obtain ⟨v, bs, h5, h6⟩ := (hr g caps (h2 _ rfl) (vs ++ caps)).2.2.1 hc h K hk
            exact ⟨v, bs, h5, fun K' hk' => h2 _ (h4 _ (h6 K' hk'))⟩
          | _ => exact hk.elim
        · obtain ⟨fv, hk, h2⟩ := Fun1.opd _ hk
          obtain ⟨vs, hk, h4⟩ := Fun1.opds _ hk
          cases fv with
          | clo g caps =>
            obtain ⟨v, h', h5, h6⟩ := (hr g caps (h2 _ rfl) (vs ++ caps)).2.2.2 hc h K hk
            exact ⟨v, h', h5, fun K' hk' => h2 _ (h4 _ (h6 K' hk'))⟩
          | _ => exact hk.elim
      cases f with
      | func g =>
        refine main (q g) fun g' caps hh => ?_
        have : LV.clo g [] = LV.clo g' caps := hh
        injection this with e1 e2
        exact e1 ▸ hq g
      | tmp i => exact main aq fun g' caps hh => ha g'
      | const x => exact main aq fun g' caps hh => ha g'
      | global x => exact main aq fun g' caps hh => ha g'
    | invoke r m => exact isC_none _
    | builtin b =>
      cases b
      case len =>
        refine IsR.c ?_ (Nat.le_refl _)
        refine IsR.bind (F := opdsK X t args.toList) (G := fun vs h K => builtinK X h .len vs tys.toList K) Fun1.opds fun vs => ?_
        intro h K hk
        unfold builtinK at hk
        simp only at hk
        split at hk
        · rename_i x ty h1
          obtain ⟨v, h3, h4⟩ := isR_len h K hk
          refine ⟨v, h3, fun bs K' hk' => ?_⟩
          unfold builtinK
          simp only [h1]
          exact h4 bs K' hk'
        · exact hk.elim
      case complex =>
        refine (IsP.of (F1 := fun k => opdsK X t args.toList fun vs => (match vs with
          | [.v (.float f a), .v (.float g b)] => (match decide (f = g) with | .true => k (.v (.complex f a b)) | .false => False)
          | _ => False)) ?_).c _
        refine Fun1.bind (F := opdsK X t args.toList) (G := fun vs k => (match vs with
          | [.v (.float f a), .v (.float g b)] => (match decide (f = g) with | .true => k (LV.v (.complex f a b)) | .false => False)
          | _ => False)) Fun1.opds fun vs => ?_
        intro k hk
        split at hk
        · split at hk
          · rename_i hd
            exact ⟨_, hk, fun k' h' => by simp only [hd]; exact h'⟩
          · exact hk.elim
        · exact hk.elim
      case real =>
        refine (IsP.of (F1 := fun k => opdsK X t args.toList fun vs => (match vs with | [.v (.complex f a _)] => k (.v (.float f a)) | _ => False)) ?_).c _
        refine Fun1.bind (F := opdsK X t args.toList) (G := fun vs k => (match vs with | [.v (.complex f a _)] => k (LV.v (.float f a)) | _ => False)) Fun1.opds fun vs => ?_
        intro k hk
        split at hk
        · exact ⟨_, hk, fun k' h' => h'⟩
        · exact hk.elim
      case imag =>
        refine (IsP.of (F1 := fun k => opdsK X t args.toList fun vs => (match vs with | [.v (.complex f _ b)] => k (.v (.float f b)) | _ => False)) ?_).c _
        refine Fun1.bind (F := opdsK X t args.toList) (G := fun vs k => (match vs with | [.v (.complex f _ b)] => k (LV.v (.float f b)) | _ => False)) Fun1.opds fun vs => ?_
        intro k hk
        split at hk
        · exact ⟨_, hk, fun k' h' => h'⟩
        · exact hk.elim
      case append =>
        refine IsF.c ?_ (Nat.le_refl _)
        refine IsF.bind (F := opdsK X t args.toList) (G := fun vs h K => builtinK X h .append vs tys.toList K) Fun1.opds fun vs => ?_
        intro h K hk
        unfold builtinK at hk
        simp only at hk
        split at hk
        · rename_i s x ts tx h1
          obtain ⟨d, h2, hk⟩ := tdK_iff.1 hk
          split at hk
          · rename_i el h3 h4
            obtain ⟨de, h5, hk⟩ := tdK_iff.1 hk
            split at hk
            · rename_i h6
              obtain ⟨v, h', h7, h8⟩ := isF_append h K hk
              refine ⟨v, h', h7, fun K' hk' => ?_⟩
              unfold builtinK
              simp only [h1]
              refine tdK_iff.2 ⟨d, h2, ?_⟩
              simp only [h3, h4]
              refine tdK_iff.2 ⟨de, h5, ?_⟩
              simp only [h6]
              exact h8 K' hk'
            · exact hk.elim
          · exact hk.elim
        · exact hk.elim
      all_goals exact isC_none _
  all_goals exact isC_none _

/-! ### What is looked at -/
theorem opd_congr {o : Operand} (h : ∀ i, o = .tmp i → t[i]? = t'[i]?) : opdK X t o = opdK X t' o := by
  funext k
  cases o with
  | tmp i => exact propext ⟨fun hk => by obtain ⟨x, h1, h2⟩ := getK_iff.1 hk; exact getK_iff.2 ⟨x, (h i rfl) ▸ h1, h2⟩, fun hk => by obtain ⟨x, h1, h2⟩ := getK_iff.1 hk; exact getK_iff.2 ⟨x, (h i rfl).symm ▸ h1, h2⟩⟩
  | _ => rfl
theorem opds_congr : ∀ {os : List Operand}, (∀ i, Operand.tmp i ∈ os → t[i]? = t'[i]?) → opdsK X t os = opdsK X t' os
  | [], _ => rfl
  | o :: os, h => by
    funext k
    unfold opdsK
    rw [opd_congr (o := o) fun i hi => h i (by simp [hi]), opds_congr (os := os) fun i hi => h i (by simp [hi])]
theorem parts_congr : ∀ {ps : List (Nat × Operand)}, (∀ i, Operand.tmp i ∈ ps.map (·.2) → t[i]? = t'[i]?) → opVal.partsK X t ps = opVal.partsK X t' ps
  | [], _ => rfl
  | (n, o) :: ps, h => by
    funext k
    unfold opVal.partsK
    rw [opd_congr (o := o) fun i hi => h i (by simp [hi]), parts_congr (ps := ps) fun i hi => h i (by simpa using .inr (by simpa using hi))]

theorem op_congr {op : Op} (hc : cls q aq op ≤ 3) (h : ∀ i, Operand.tmp i ∈ op.operands → t[i]? = t'[i]?) {hp : List Blk} {K : LV → List Blk → Prop} : opVal X t hp op K ↔ opVal X t' hp op K := by
  have one : ∀ x, x ∈ op.operands → opdK X t x = opdK X t' x := fun x hx => opd_congr fun i hi => h i (hi ▸ hx)
  cases op
  case call c =>
    obtain ⟨callee, args, tys⟩ := c
    have ha : opdsK X t args.toList = opdsK X t' args.toList := opds_congr fun i hi => h i (by simp only [Op.operands, Call.operands]; simp; exact .inr (by simpa using hi))
    cases callee with
    | value f =>
      have hf : opdK X t f = opdK X t' f := one f (by simp [Op.operands, Call.operands])
      simp only [opVal, hf, ha]
    | invoke r m => exact absurd hc (by simp [cls])
    | builtin b => simp only [opVal, ha]
  case build ty ps =>
    have := parts_congr (X := X) (t := t) (t' := t') (ps := ps.toList) fun i hi => h i (by simp [Op.operands]; simpa using hi)
    simp only [opVal, this]
  case buildSlice ty n ps =>
    have := parts_congr (X := X) (t := t) (t' := t') (ps := ps.toList) fun i hi => h i (by simp [Op.operands]; simpa using hi)
    simp only [opVal, this]
  case makeFunc f first caps =>
    have := opds_congr (X := X) (t := t) (t' := t') (os := caps.toList) fun i hi => h i (by simp [Op.operands]; exact .inr (by simpa using hi))
    cases f <;> first | simp only [opVal, this] | exact absurd hc (by simp [cls])
  all_goals try (simp [cls] at hc; done)
  all_goals try exact Iff.rfl
  all_goals (simp only [Op.operands] at one; simp only [opVal]; simp [one])
end
end E
end Go.Proofs.YtjhognibibmeiaaGreatDoor
