/- The operations: min and max, copy, maps, iterators, extract, make. -/
import Derived.Test.YtkgghgigjeihjaaGreatS8
namespace Go.Proofs.YtkgghgigjeihjaaGreat.Sim
set_option linter.unusedVariables false
set_option linter.unusedSimpArgs false
section
variable {P : Program} {Γ : Ctx} {s : CS} {H : AH}

def mmA (mx : Bool) (k : IntKind) (x : Int) : List AV → Option AV
  | [] => some (.int k x)
  | .int _ y :: r => mmA mx k (if mx then (if y > x then y else x) else (if y < x then y else x)) r
  | _ => none
def minmaxA (mx : Bool) : List AV → Option AV
  | .int k x :: r => mmA mx k x r
  | _ => none
theorem mm_ok (k : IntKind) (w : World) : ∀ (l : List AV) (cs : List Value) (x : Int) (v : AV), LR s l cs →
    (mmA false k x l = some v → ∃ c, (cs.foldlM Builtin.min2 (.int k x)).run P w = .ok c w ∧ VR s v c) ∧ (mmA true k x l = some v → ∃ c, (cs.foldlM Builtin.max2 (.int k x)).run P w = .ok c w ∧ VR s v c)
  | [], cs, x, v, hl => by
    rw [hl.of_nil]
    exact ⟨fun h => by cases h; exact ⟨_, rfl, .pv _ _ (.int _ _)⟩, fun h => by cases h; exact ⟨_, rfl, .pv _ _ (.int _ _)⟩⟩
  | y :: l, cs, x, v, hl => by
    obtain ⟨c, cs', rfl, h1, h2⟩ := hl.of_cons
    refine ⟨fun h => ?_, fun h => ?_⟩
    · unfold mmA at h
      split at h
      · rename_i e; cases e
      · rename_i k' y' r e
        cases e
        have := h1.of_int; subst this
        obtain ⟨c, e1, e2⟩ := (mm_ok k w l cs' _ v h2).1 h
        exact ⟨c, by simp only [List.foldlM_cons, Sem.run_bind, Builtin.min2, Sem.run_pure, Result.andThen_ok]; simpa using e1, e2⟩
      · cases h
    · unfold mmA at h
      split at h
      · rename_i e; cases e
      · rename_i k' y' r e
        cases e
        have := h1.of_int; subst this
        obtain ⟨c, e1, e2⟩ := (mm_ok k w l cs' _ v h2).2 h
        exact ⟨c, by simp only [List.foldlM_cons, Sem.run_bind, Builtin.max2, Sem.run_pure, Result.andThen_ok]; simpa using e1, e2⟩
      · cases h
theorem minmax_ok {l : List AV} {cs : Array Value} {v : AV} (hl : LR s l cs.toList) (ats : Array TypeId) (ty : TypeId) (w : World) :
    (minmaxA false l = some v → ∃ c, (Builtin.min_ ats ty cs).run P w = .ok c w ∧ VR s v c) ∧ (minmaxA true l = some v → ∃ c, (Builtin.max_ ats ty cs).run P w = .ok c w ∧ VR s v c) := by
  cases l with
  | nil => exact ⟨(fun h => by cases h), (fun h => by cases h)⟩
  | cons x l =>
    obtain ⟨c, cs', hcs, h1, h2⟩ := hl.of_cons
    refine ⟨fun h => ?_, fun h => ?_⟩
    · unfold minmaxA at h
      split at h
      · rename_i k n r e
        cases e
        have := h1.of_int; subst this
        simp only [Builtin.min_, hcs]
        exact (mm_ok k w l cs' n v h2).1 h
      · cases h
    · unfold minmaxA at h
      split at h
      · rename_i k n r e
        cases e
        have := h1.of_int; subst this
        simp only [Builtin.max_, hcs]
        exact (mm_ok k w l cs' n v h2).2 h
      · cases h

def extractA (x : AV) (k : Nat) : Option AV :=
  match x with
  | .tup vs => vs[k]?
  | _ => none
theorem extract_ok {x v : AV} {c : Value} {k : Nat} (h : extractA x k = some v) (hx : VR s x c) (w : World) : ∃ r, (Instr.extract c k).run P w = .ok r w ∧ VR s v r := by
  unfold extractA at h
  split at h
  · rename_i vs
    obtain ⟨cs, rfl, hl⟩ := hx.of_tup
    obtain ⟨r, h1, h2⟩ := hl.get h
    have h1' : cs[k]? = some r := by simpa using h1
    exact ⟨r, by simp only [Instr.extract, h1']; rfl, h2⟩
  · cases h

def cntOf : AV → Option Nat
  | .slc _ _ n _ _ => some n
  | .lst _ n _ => some n
  | .str b => some b.length
  | _ => none
theorem lenOf_ok {x : AV} {c : Value} {n : Nat} (h : cntOf x = some n) (hx : VR s x c) (w : World) : (Builtin.lenOf c).run P w = .ok n w := by
  unfold cntOf at h
  split at h
  · cases h; obtain ⟨loc, o, k, rfl, _⟩ := hx.of_slc; rfl
  · cases h
    rcases hx.of_lst with ⟨rfl, rfl, rfl⟩ | ⟨b, o, k, f, rfl, _⟩ <;> rfl
  · cases h; obtain ⟨u, rfl, rfl⟩ := hx.of_str; rfl
  · cases h
def copyA (Γ : Ctx) (ats : List Nat) (x y : AV) (H : AH) : Option (AV × AH) :=
  match ats[0]? with
  | none => none
  | some T => match Γ.ty T with
    | none => none
    | some i => match i.desc with
      | .slice e => match Γ.ty e, cntOf y with
        | some j, some m => match x with
          | .slc id off len es _ => match rowA y (Nat.min m len) j.size H, H.bl id with
            | some l, some (.cells vs) => if es = j.size ∧ H.floor ≤ id ∧ l.all AV.cell = true ∧ 0 < Nat.min m len ∧ off + l.length ≤ vs.length then some (.int .i64 (Nat.min m len), { H with bl := upd H.bl id (some (.cells (setL vs off l))) }) else none
            | _, _ => none
          | _ => none
        | _, _ => none
      | _ => none
theorem copy_ok (hΓ : Γ.Ok P) (hi : Inv H s) {ats : Array TypeId} {x y v : AV} {c d : Value} {H' : AH} (h : copyA Γ ats.toList x y H = some (v, H')) (hx : VR s x c) (hy : VR s y d) (ty : TypeId) (hat : (ats[1]?).isSome = true) :
    ∃ r s', (Builtin.copy_ ats ty #[c, d]).run P s.w = .ok r s'.w ∧ Step H s H' s' ∧ VR s' v r := by
  unfold copyA at h
  split at h
  · cases h
  · rename_i T h0
    have h0' : ats[0]? = some T := by simpa using h0
    split at h
    · cases h
    · rename_i i hti
      have hT := hΓ.ty T i hti
      split at h
      · rename_i e hd
        split at h
        · rename_i j m hj hm
          have hJ := hΓ.ty e j hj
          split at h
          · rename_i id off len es cap
            split at h
            · rename_i l vs hl hbl
              split at h
              · rename_i hc
                cases h
                obtain ⟨rfl, hfl, hcell, hpos, hle⟩ := hc
                obtain ⟨loc, o, k, rfl, hr, ho, hlen, hcap, _⟩ := hx.of_slc
                obtain ⟨cs, e1, e2, e3⟩ := row_ok (P := P) hi hl hy
                have ho' : o = loc.off + off := ho.resolve_left (by have : Nat.min m len ≤ len := Nat.min_le_right _ _; omega)
                subst ho'
                obtain ⟨s', g1, g2⟩ := put_cells (P := P) hi hbl hfl hr off l cs.toList e2 hcell hle
                refine ⟨.int .i64 (Nat.min m len), s', ?_, g2, .pv _ _ (.int _ _)⟩
                obtain ⟨T2, hT2⟩ := Option.isSome_iff_exists.1 hat
                have a1 : (#[Value.slice (some ⟨loc.blk, loc.off + off, none⟩) len k, d] : Array Value)[0]? = some (.slice (some ⟨loc.blk, loc.off + off, none⟩) len k) := rfl
                have a2 : (#[Value.slice (some ⟨loc.blk, loc.off + off, none⟩) len k, d] : Array Value)[1]? = some d := rfl
                simp only [Builtin.copy_, h0', a1, a2, Sem.run_bind, hT.run_und, hd, Result.andThen_ok, lenOf_ok hm hy, hJ.run_size, e1, g1]
                rfl
              · cases h
            · cases h
          · cases h
        · cases h
      · cases h

/-- Keys of maps: whole numbers and texts. -/
def sameK : AV → AV → Option Bool
  | .int k a, .int k' b => if k = k' then some (a == b) else none
  | .str a, .str b => some (a == b)
  | _, _ => none
def keyOk : TypeDesc → AV → Bool
  | .int _, .int _ _ => true
  | .string, .str _ => true
  | _, _ => false
def findA (k : AV) : List (AV × AV) → Nat → Option (Option (Nat × AV))
  | [], _ => some none
  | (k', v) :: r, i => match sameK k k' with
    | some true => some (some (i, v))
    | some false => findA k r (i + 1)
    | none => none
/-- The entries of a map, one by one. -/
def ER (s : CS) (es : List (AV × AV)) (ces : List MapEntry) : Prop := es.length = ces.length ∧ ∀ (i : Nat) (k v : AV) (e : MapEntry), es[i]? = some (k, v) → ces[i]? = some e → VR s k e.key ∧ VR s v e.val
theorem sameK_ok {D : TypeDesc} {k k' : AV} {c c' : Value} {b : Bool} (hk : keyOk D k = true) (h : sameK k k' = some b) (h1 : VR s k c) (h2 : VR s k' c') : Instr.sameNow D c c' = some b := by
  unfold sameK at h
  split at h
  · rename_i k a k' b'
    have := h1.of_int; subst this
    have := h2.of_int; subst this
    split at h
    · rename_i e
      cases h
      cases D <;> first
        | (cases hk; done)
        | (simp only [Instr.sameNow]; rw [if_pos e])
    · cases h
  · cases h
    obtain ⟨u, rfl, rfl⟩ := h1.of_str
    obtain ⟨v, rfl, rfl⟩ := h2.of_str
    cases D <;> first
      | (cases hk; done)
      | (simp only [Instr.sameNow]; rw [beq_toListBytes, Lib.toList_data, Lib.toList_data])
  · cases h
theorem find_ok {D : TypeDesc} {k : AV} {c : Value} (hk : keyOk D k = true) (hc : VR s k c) : ∀ (es : List (AV × AV)) (ces : List MapEntry) (i : Nat) (r : Option (Nat × AV)), findA k es i = some r → ER s es ces →
    ∃ r', Instr.findNow D c ces i = some r' ∧ ((r = none ∧ r' = none) ∨ ∃ j v cv, r = some (j, v) ∧ r' = some (j, cv) ∧ VR s v cv ∧ i ≤ j ∧ ∃ k', es[j - i]? = some (k', v) ∧ sameK k k' = some true)
  | [], ces, i, r, h, he => by
    cases h
    have : ces = [] := by have := he.1; cases ces <;> simp_all
    subst this
    exact ⟨none, rfl, .inl ⟨rfl, rfl⟩⟩
  | (k', v) :: es, ces, i, r, h, he => by
    cases ces with
    | nil => have := he.1; simp at this
    | cons e ces =>
      obtain ⟨g1, g2⟩ := he.2 0 k' v e rfl rfl
      simp only [findA] at h
      simp only [Instr.findNow]
      split at h
      · rename_i hs
        cases h
        rw [sameK_ok hk hs hc g1]
        exact ⟨_, rfl, .inr ⟨i, v, e.val, rfl, rfl, g2, Nat.le_refl _, k', by simp, hs⟩⟩
      · rename_i hs
        rw [sameK_ok hk hs hc g1]
        obtain ⟨r', e1, e2⟩ := find_ok hk hc es ces (i + 1) r h ⟨by have := he.1; simpa using this, fun j a b q h1 h2 => he.2 (j + 1) a b q (by simpa using h1) (by simpa using h2)⟩
        refine ⟨r', e1, ?_⟩
        rcases e2 with e2 | ⟨j, u, cv, a1, a2, a3, a4, k2, a5, a6⟩
        · exact .inl e2
        · refine .inr ⟨j, u, cv, a1, a2, a3, by omega, k2, ?_, a6⟩
          rw [show j - i = (j - (i + 1)) + 1 by omega]; simpa using a5
      · cases h
theorem checkKey_ok {D : TypeDesc} {t : TypeId} {k : AV} {c : Value} (hk : keyOk D k = true) (hc : VR s k c) (hu : P.underlying t = some D) (empty : Bool) (n : Nat) (w : World) : (Instr.checkKey empty (n + 1) t c).run P w = .ok () w := by
  have hr : (underlying t).run P w = .ok D w := by simp [underlying, hu]
  cases k with
  | int k m =>
    have := hc.of_int; subst this
    cases D <;> first
      | (cases hk; done)
      | (simp only [Instr.checkKey, Sem.run_bind, hr, Result.andThen_ok]; rfl)
  | str b =>
    obtain ⟨u, rfl, _⟩ := hc.of_str
    cases D <;> first
      | (cases hk; done)
      | (simp only [Instr.checkKey, Sem.run_bind, hr, Result.andThen_ok]; rfl)
  | _ => cases D <;> cases hk
theorem findKey_run {D : TypeDesc} {t : TypeId} {c : Value} {ces : List MapEntry} {r : Option (Nat × Value)} (hu : P.underlying t = some D) (h : Instr.findNow D c ces 0 = some r) (w : World) : (Instr.findKey t c ces).run P w = .ok r w := by
  have hr : (underlying t).run P w = .ok D w := by simp [underlying, hu]
  simp only [Instr.findKey, Sem.run_bind, hr, Result.andThen_ok, h]; rfl
theorem map_block (hi : Inv H s) {id : Nat} {es : List (AV × AV)} (hbl : H.bl id = some (.map es)) : ∃ loc ces clock, s.ρ id = some loc ∧ s.w.heap[loc.blk]? = some (.map ces clock) ∧ ER s es ces.toList ∧ loc.off = 0 := by
  obtain ⟨loc, h1, _, h2, ces, clock, h3, h4, h5⟩ := hi.blk _ _ hbl
  refine ⟨loc, ces, clock, h1, h3, ⟨by simp [h4], fun i k v e g1 g2 => ?_⟩, h2⟩
  obtain ⟨e', a1, a2, a3⟩ := h5 i k v g1
  have : ces[i]? = some e := by simpa using g2
  rw [a1] at this; cases this
  exact ⟨a2, a3⟩

def lookupA (Γ : Ctx) (T : Nat) (x k : AV) (ok : Bool) (H : AH) : Option AV :=
  match Γ.ty T with
  | none => none
  | some i => match i.desc with
    | .map kt et => match Γ.ty kt, Γ.ty et with
      | some ki, some ei => if keyOk ki.desc k = true then match x with
        | .map none => some (if ok then .tup [ei.zero, .bool false] else ei.zero)
        | .map (some id) => match H.bl id with
          | some (.map es) => match findA k es 0 with
            | some none => some (if ok then .tup [ei.zero, .bool false] else ei.zero)
            | some (some (_, v)) => some (if ok then .tup [v, .bool true] else v)
            | none => none
          | _ => none
        | _ => none
        else none
      | _, _ => none
    | _ => none
theorem lookup_ok (hΓ : Γ.Ok P) (hi : Inv H s) {T : Nat} {x k v : AV} {c d : Value} {ok : Bool} (h : lookupA Γ T x k ok H = some v) (hx : VR s x c) (hk : VR s k d) : ∃ r, (Instr.lookup T c d ok).run P s.w = .ok r s.w ∧ VR s v r := by
  unfold lookupA at h
  split at h
  · cases h
  · rename_i i hti
    have hT := hΓ.ty T i hti
    split at h
    · rename_i kt et hd
      split at h
      · rename_i ki ei hki hei
        have hK := hΓ.ty _ ki hki
        have hE := hΓ.ty _ ei hei
        split at h
        · rename_i hkey
          have hck : ∀ empty, (Instr.checkKey empty 10000 kt d).run P s.w = .ok () s.w := fun empty => checkKey_ok (P := P) hkey hk hK.und empty 9999 s.w
          obtain ⟨z, z1, z2⟩ := hE.run_zero (s := s) s.w
          have hzero : ∀ r, (if ok then (.tup [ei.zero, .bool false]) else ei.zero) = v → r = (if ok then .tuple #[z, .bool false] else z) → VR s v r := fun r h1 h2 => by
            subst h1; subst h2
            cases ok
            · exact z2
            · exact VR.tup' (LR.cons z2 (LR.cons (.pv _ _ (.bool _)) LR.nil))
          split at h
          · have := hx.of_map0; subst this
            cases h
            refine ⟨_, ?_, hzero _ rfl rfl⟩
            simp only [Instr.lookup, Sem.run_bind, hT.run_und, hd, Result.andThen_ok, Sem.run_pure, hck]
            have hf := findKey_run (P := P) (c := d) (ces := (#[] : Array MapEntry).toList) (r := none) hK.und rfl s.w
            simp only [hf, Result.andThen_ok, Sem.run_bind, z1, Sem.run_pure]
          · rename_i id
            split at h
            · rename_i es hbl
              obtain ⟨loc, ces, clock, g1, g2, g3, _⟩ := map_block hi hbl
              obtain ⟨loc', rfl, hr⟩ := hx.of_map
              rw [g1] at hr; cases hr
              split at h
              · rename_i hfn
                cases h
                obtain ⟨r', e1, e2⟩ := find_ok hkey hk es ces.toList 0 _ hfn g3
                have hr' : r' = none := by
                  rcases e2 with ⟨_, h⟩ | ⟨_, _, _, h, _⟩
                  · exact h
                  · cases h
                subst hr'
                refine ⟨_, ?_, hzero _ rfl rfl⟩
                simp only [Instr.lookup, Sem.run_bind, hT.run_und, hd, Result.andThen_ok, Sem.run_pure, run_getObj_map _ _ _ _ g2, hck, findKey_run hK.und e1, z1]
              · rename_i j u hfn
                cases h
                obtain ⟨r', e1, e2⟩ := find_ok hkey hk es ces.toList 0 _ hfn g3
                rcases e2 with ⟨h, _⟩ | ⟨j', v', cv, h1, rfl, h3, _⟩
                · cases h
                · cases h1
                  refine ⟨if ok then .tuple #[cv, .bool true] else cv, ?_, ?_⟩
                  · simp only [Instr.lookup, Sem.run_bind, hT.run_und, hd, Result.andThen_ok, Sem.run_pure, run_getObj_map _ _ _ _ g2, hck, findKey_run hK.und e1]
                  · cases ok
                    · exact h3
                    · exact VR.tup' (LR.cons h3 (LR.cons (.pv _ _ (.bool _)) LR.nil))
              · cases h
            · cases h
          · cases h
        · cases h
      · cases h
    · cases h
end
end Go.Proofs.YtkgghgigjeihjaaGreat.Sim
