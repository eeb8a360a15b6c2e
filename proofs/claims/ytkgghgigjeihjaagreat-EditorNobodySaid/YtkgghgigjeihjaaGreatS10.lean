/- The operations: maps written, made; slices made; texts ranged over. -/
import Derived.Test.YtkgghgigjeihjaaGreatS9
namespace Go.Proofs.YtkgghgigjeihjaaGreat.Sim
set_option linter.unusedVariables false
set_option linter.unusedSimpArgs false
section
variable {P : Program} {Γ : Ctx} {s : CS} {H : AH}

theorem run_setObj_map (w : World) (r : Nat) (es es' : Array MapEntry) (k k' : Nat) (h : w.heap[r]? = some (.map es k)) : (setObj r (.map es' k')).run P w = .ok () { w with heap := w.heap.setIfInBounds r (.map es' k') } := by
  simp [setObj, Sem.run, h]
/-- A map's block written. -/
theorem put_map (hi : Inv H s) {id : Nat} {es es' : List (AV × AV)} (hbl : H.bl id = some (.map es)) (hfl : H.floor ≤ id) {loc : Loc} (hr : s.ρ id = some loc) (h0 : loc.off = 0) {ces : Array MapEntry} {k : Nat} (hh : s.w.heap[loc.blk]? = some (.map ces k)) (ces' : Array MapEntry) (k' : Nat) (he : ER s es' ces'.toList) :
    ∃ s', (setObj loc.blk (.map ces' k')).run P s.w = .ok () s'.w ∧ Step H s { H with bl := upd H.bl id (some (.map es')) } s' := by
  refine ⟨{ s with w := { s.w with heap := s.w.heap.setIfInBounds loc.blk (.map ces' k') } }, run_setObj_map s.w loc.blk ces ces' k k' hh, (step_put (B := .map es') hi hbl hfl hr { s.w with heap := s.w.heap.setIfInBounds loc.blk (.map ces' k') } rfl rfl rfl (by simp) (fun b hb => ?_) fun hv => ?_).1⟩
  · simp only [Array.getElem?_setIfInBounds]; rw [if_neg (fun e => hb e.symm)]
  · have hlt : loc.blk < s.w.heap.size := hi.rlt _ _ hr
    refine ⟨h0, ces', k', ?_, by have := he.1; simpa using this.symm, fun i a b hx => ?_⟩
    · simp only [Array.getElem?_setIfInBounds, if_pos hlt]; simp
    · have hlen : i < ces'.toList.length := by rw [← he.1]; exact (List.getElem?_eq_some_iff.1 hx).1
      obtain ⟨g1, g2⟩ := he.2 i a b _ hx (List.getElem?_eq_getElem hlen)
      exact ⟨ces'.toList[i], by rw [← Array.getElem?_toList, List.getElem?_eq_getElem hlen], hv _ _ g1, hv _ _ g2⟩

theorem sameBits_of {k k' : AV} {c c' : Value} (h : sameK k k' = some true) (h1 : VR s k c) (h2 : VR s k' c') (n : Nat) : Instr.sameBits n c' c = true := by
  unfold sameK at h
  split at h
  · have := h1.of_int; subst this
    have := h2.of_int; subst this
    split at h
    · rename_i e
      simp only [Option.some.injEq, beq_iff_eq] at h
      subst e; subst h
      unfold Instr.sameBits; simp
    · cases h
  · obtain ⟨u, rfl, rfl⟩ := h1.of_str
    obtain ⟨v, rfl, rfl⟩ := h2.of_str
    simp only [Option.some.injEq, beq_iff_eq] at h
    unfold Instr.sameBits
    rw [beq_toListBytes, Lib.toList_data, Lib.toList_data, h]; simp
  · cases h

def mapPutA (Γ : Ctx) (T : Nat) (x k v : AV) (H : AH) : Option AH :=
  match Γ.ty T with
  | none => none
  | some i => match i.desc with
    | .map kt et => match Γ.ty kt with
      | some ki => if keyOk ki.desc k = true then match x with
        | .map (some id) => match H.bl id with
          | some (.map es) => if H.floor ≤ id then match findA k es 0 with
            | some none => some { H with bl := upd H.bl id (some (.map (es ++ [(k, v)]))) }
            | some (some (j, _)) => some { H with bl := upd H.bl id (some (.map (es.set j (k, v)))) }
            | none => none
            else none
          | _ => none
        | _ => none
        else none
      | _ => none
    | _ => none
theorem mapPut_ok (hΓ : Γ.Ok P) (hi : Inv H s) {T : Nat} {x k v : AV} {c d e : Value} {H' : AH} (h : mapPutA Γ T x k v H = some H') (hx : VR s x c) (hk : VR s k d) (hv : VR s v e) : ∃ s', (Instr.mapUpdate T c d e).run P s.w = .ok () s'.w ∧ Step H s H' s' := by
  unfold mapPutA at h
  split at h
  · cases h
  · rename_i i hti
    have hT := hΓ.ty T i hti
    split at h
    · rename_i kt et hd
      split at h
      · rename_i ki hki
        have hK := hΓ.ty _ ki hki
        split at h
        · rename_i hkey
          have hck : ∀ empty, (Instr.checkKey empty 10000 kt d).run P s.w = .ok () s.w := fun empty => checkKey_ok (P := P) hkey hk hK.und empty 9999 s.w
          split at h
          · rename_i id
            split at h
            · rename_i es hbl
              split at h
              · rename_i hfl
                obtain ⟨loc, ces, clock, g1, g2, g3, g4⟩ := map_block hi hbl
                obtain ⟨loc', rfl, hr⟩ := hx.of_map
                rw [g1] at hr; cases hr
                have hlen : es.length = ces.toList.length := g3.1
                split at h
                · rename_i hfn
                  cases h
                  obtain ⟨r', e1, e2⟩ := find_ok hkey hk es ces.toList 0 _ hfn g3
                  have hr' : r' = none := by
                    rcases e2 with ⟨_, h⟩ | ⟨_, _, _, h, _⟩
                    · exact h
                    · cases h
                  subst hr'
                  obtain ⟨s', a1, a2⟩ := put_map (P := P) (es' := es ++ [(k, v)]) hi hbl hfl g1 g4 g2 (ces.push { key := d, val := e, born := clock }) (clock + 1) ⟨by simp [hlen], fun j a b q h1 h2 => by
                    rw [Array.toList_push, List.getElem?_append] at h2
                    rw [List.getElem?_append] at h1
                    rw [← hlen] at h2
                    split at h1
                    · rename_i hlt; rw [if_pos hlt] at h2; exact g3.2 j a b q h1 h2
                    · rename_i hlt
                      rw [if_neg hlt] at h2
                      have h3 := (List.getElem?_eq_some_iff.1 h1).1
                      have h4 : j - es.length = 0 := by simp at h3; omega
                      rw [h4] at h1 h2
                      cases h1; cases h2; exact ⟨hk, hv⟩⟩
                  refine ⟨s', ?_, a2⟩
                  simp only [Instr.mapUpdate, Sem.run_bind, hT.run_und, hd, Result.andThen_ok, run_getObj_map _ _ _ _ g2, hck, findKey_run hK.und e1, a1]
                · rename_i j u hfn
                  cases h
                  obtain ⟨r', e1, e2⟩ := find_ok hkey hk es ces.toList 0 _ hfn g3
                  rcases e2 with ⟨h, _⟩ | ⟨j', v', cv, h1, rfl, h3, _, k', h5, h6⟩
                  · cases h
                  · cases h1
                    simp only [Nat.sub_zero] at h5
                    have hj : j < es.length := (List.getElem?_eq_some_iff.1 h5).1
                    have hjc : j < ces.size := by simp at hlen; omega
                    have hold := g3.2 j k' _ ces[j] h5 (by rw [Array.getElem?_toList]; exact Array.getElem?_eq_getElem hjc)
                    have hsame : (Instr.keyThatStays (((ces[j]?).map (·.key)).getD d) d).run P s.w = .ok d s.w := by
                      rw [Array.getElem?_eq_getElem hjc]
                      simp only [Option.map_some, Option.getD_some, Instr.keyThatStays]
                      rw [if_pos (sameBits_of h6 hk hold.1 10000)]; rfl
                    obtain ⟨s', a1, a2⟩ := put_map (P := P) (es' := es.set j (k, v)) hi hbl hfl g1 g4 g2 (ces.modify j fun x => { x with key := d, val := e }) clock ⟨by simp; simpa using hlen, fun q a b y h1 h2 => by
                      rw [Array.getElem?_toList, Array.getElem?_modify] at h2
                      rw [List.getElem?_set] at h1
                      split at h1
                      · rename_i hq
                        subst hq
                        (try rw [if_pos hj] at h1)
                        rw [if_pos rfl, Array.getElem?_eq_getElem hjc] at h2
                        cases h1; cases h2; exact ⟨hk, hv⟩
                      · rename_i hq
                        rw [if_neg hq] at h2
                        exact g3.2 q a b y h1 (by rw [Array.getElem?_toList]; exact h2)⟩
                    refine ⟨s', ?_, a2⟩
                    simp only [Instr.mapUpdate, Sem.run_bind, hT.run_und, hd, Result.andThen_ok, run_getObj_map _ _ _ _ g2, hck, findKey_run hK.und e1, hsame, a1]
                · cases h
              · cases h
            · cases h
          · cases h
        · cases h
      · cases h
    · cases h

def deleteA (Γ : Ctx) (ats : List Nat) (x k : AV) (H : AH) : Option AH :=
  match ats[0]? with
  | none => none
  | some T => match Γ.ty T with
    | none => none
    | some i => match i.desc with
      | .map kt et => match Γ.ty kt with
        | some ki => if keyOk ki.desc k = true then match x with
          | .map (some id) => match H.bl id with
            | some (.map es) => if H.floor ≤ id then match findA k es 0 with
              | some none => some { H with bl := upd H.bl id (some (.map es)) }
              | some (some (j, _)) => some { H with bl := upd H.bl id (some (.map (es.eraseIdx j))) }
              | none => none
              else none
            | _ => none
          | _ => none
          else none
        | _ => none
      | _ => none
theorem delete_ok (hΓ : Γ.Ok P) (hi : Inv H s) {ats : Array TypeId} {x k : AV} {c d : Value} {H' : AH} (h : deleteA Γ ats.toList x k H = some H') (hx : VR s x c) (hk : VR s k d) (ty : TypeId) : ∃ s', (Builtin.delete_ ats ty #[c, d]).run P s.w = .ok (.tuple #[]) s'.w ∧ Step H s H' s' := by
  unfold deleteA at h
  split at h
  · cases h
  · rename_i T h0
    have h0' : ats[0]? = some T := by simpa using h0
    split at h
    · cases h
    · rename_i i hti
      have hT := hΓ.ty T i hti
      split at h
      · rename_i kt et hd
        split at h
        · rename_i ki hki
          have hK := hΓ.ty _ ki hki
          split at h
          · rename_i hkey
            have hck : ∀ empty, (Instr.checkKey empty 10000 kt d).run P s.w = .ok () s.w := fun empty => checkKey_ok (P := P) hkey hk hK.und empty 9999 s.w
            split at h
            · rename_i id
              split at h
              · rename_i es hbl
                split at h
                · rename_i hfl
                  obtain ⟨loc, ces, clock, g1, g2, g3, g4⟩ := map_block hi hbl
                  obtain ⟨loc', rfl, hr⟩ := hx.of_map
                  rw [g1] at hr; cases hr
                  have a1 : (#[Value.map (some loc.blk), d] : Array Value)[0]? = some (.map (some loc.blk)) := rfl
                  have a2 : (#[Value.map (some loc.blk), d] : Array Value)[1]? = some d := rfl
                  split at h
                  · rename_i hfn
                    cases h
                    obtain ⟨r', e1, e2⟩ := find_ok hkey hk es ces.toList 0 _ hfn g3
                    have hr' : r' = none := by
                      rcases e2 with ⟨_, h⟩ | ⟨_, _, _, h, _⟩
                      · exact h
                      · cases h
                    subst hr'
                    obtain ⟨s', b1, b2⟩ := put_map (P := P) (es' := es) hi hbl hfl g1 g4 g2 ces clock g3
                    refine ⟨s', ?_, b2⟩
                    simp only [Builtin.delete_, h0', a1, a2, Sem.run_bind, hT.run_und, hd, Result.andThen_ok, run_getObj_map _ _ _ _ g2, hck, findKey_run hK.und e1, b1]
                    rfl
                  · rename_i j u hfn
                    cases h
                    obtain ⟨r', e1, e2⟩ := find_ok hkey hk es ces.toList 0 _ hfn g3
                    rcases e2 with ⟨h, _⟩ | ⟨j', v', cv, h1, rfl, h3, _, k', h5, h6⟩
                    · cases h
                    · cases h1
                      simp only [Nat.sub_zero] at h5
                      have hj : j < es.length := (List.getElem?_eq_some_iff.1 h5).1
                      have hlen : es.length = ces.toList.length := g3.1
                      have hjc : j < ces.size := by simp at hlen; omega
                      have htl : (ces.eraseIdxIfInBounds j).toList = ces.toList.eraseIdx j := by
                        unfold Array.eraseIdxIfInBounds; rw [dif_pos hjc]; simp
                      obtain ⟨s', b1, b2⟩ := put_map (P := P) (es' := es.eraseIdx j) hi hbl hfl g1 g4 g2 (ces.eraseIdxIfInBounds j) clock (by
                        rw [htl]
                        refine ⟨by rw [List.length_eraseIdx, List.length_eraseIdx, hlen], fun q a b y h1 h2 => ?_⟩
                        rw [List.getElem?_eraseIdx] at h1 h2
                        split at h1
                        · rename_i hq; rw [if_pos hq] at h2; exact g3.2 q a b y h1 h2
                        · rename_i hq; rw [if_neg hq] at h2; exact g3.2 _ a b y h1 h2)
                      refine ⟨s', ?_, b2⟩
                      simp only [Builtin.delete_, h0', a1, a2, Sem.run_bind, hT.run_und, hd, Result.andThen_ok, run_getObj_map _ _ _ _ g2, hck, findKey_run hK.und e1, b1]
                      rfl
                  · cases h
                · cases h
              · cases h
            · cases h
          · cases h
        · cases h
      · cases h

theorem new_map (hi : Inv H s) (hf : s.ρ H.nxt = none) : Step H s (H.new (.map [])) (s.new H.nxt (.map #[] 0) 0 0) ∧ VR (s.new H.nxt (.map #[] 0) 0 0) (.map (some H.nxt)) (.map (some s.w.heap.size)) := by
  refine ⟨step_new hi hf _ _ 0 0 ⟨rfl, #[], 0, ?_, rfl, fun i k v h => by simp at h⟩, ?_⟩
  · show (s.w.alloc (.map #[] 0)).heap[s.w.heap.size]? = _
    exact Array.getElem?_push_size
  · exact VR.map (s := s.new H.nxt (.map #[] 0) 0 0) H.nxt ⟨s.w.heap.size, 0, 0⟩ (by simp [CS.new])

def makeSliceA (Γ : Ctx) (T : Nat) (x y : AV) (H : AH) : Option (AV × AH) :=
  match Γ.ty T, x, y with
  | some i, .int _ n, .int _ c => match i.desc with
    | .slice e => match Γ.ty e with
      | some j => if 0 ≤ n ∧ n ≤ c ∧ c < 4611686018427387904 ∧ c * j.bytes ≤ 281474976710656 ∧ 0 < j.size ∧ j.zero.cells.length = j.size then
          some (.slc H.nxt 0 n.toNat j.size (some c.toNat), H.new (.cells (zerosA j.zero.cells (n.toNat * j.size)))) else none
      | none => none
    | _ => none
  | _, _, _ => none
theorem makeSlice_ok (hΓ : Γ.Ok P) (hi : Inv H s) {T : Nat} {x y v : AV} {c d : Value} {H' : AH} (h : makeSliceA Γ T x y H = some (v, H')) (hf : Fresh s H.nxt H'.nxt) (hx : VR s x c) (hy : VR s y d) : ∃ r s', (Instr.makeSlice T c d).run P s.w = .ok r s'.w ∧ Step H s H' s' ∧ VR s' v r := by
  unfold makeSliceA at h
  split at h
  · rename_i i k n k' m hti
    have hT := hΓ.ty T i hti
    have := hx.of_int; subst this
    have := hy.of_int; subst this
    split at h
    · rename_i e hd
      split at h
      · rename_i j hj
        have hJ := hΓ.ty _ j hj
        split at h
        · rename_i hc
          cases h
          obtain ⟨c1, c2, c3, c4, c5, c6⟩ := hc
          obtain ⟨inf, i1, i2⟩ := hJ.run_info s.w
          obtain ⟨z, z1, z2⟩ := hJ.run_zero (s := s) s.w
          have hw1 : IntKind.i64.wrap n = n := by rw [IntKind.wrap_i64]; omega
          have hw2 : IntKind.i64.wrap m = m := by rw [IntKind.wrap_i64]; omega
          have hfr : s.ρ H.nxt = none := hf _ (Nat.le_refl _) (by simp [AH.new])
          have hzc : z.cells.size = j.size := by have := z2.cells.1; simp at this; omega
          obtain ⟨row, hrow⟩ : ∃ row, row = (Array.range (m.toNat * j.size)).map (fun i => z.cells[i % z.cells.size]!) := ⟨_, rfl⟩
          have hsz : row.size = m.toNat * j.size := by rw [hrow]; simp
          have hcond : ¬ ((decide (m < 0) || decide ((inf.bytes : Int) * m > 2 ^ 48) || decide (n < 0) || decide (n > m)) = true) := by
            rw [i2]
            have : (j.bytes : Int) * m = m * j.bytes := Int.mul_comm _ _
            simp only [this, Bool.or_eq_true, decide_eq_true_eq]; omega
          have hle : n.toNat * j.size ≤ m.toNat * j.size := Nat.mul_le_mul_right _ (by omega)
          refine ⟨.slice (some ⟨s.w.heap.size, 0, none⟩) n.toNat m.toNat, s.new H.nxt (.cells row e) 0 row.size, ?_, ?_, ?_⟩
          · simp only [Instr.makeSlice, Sem.run_bind, hT.run_und, hd, Result.andThen_ok, asInt, asIntOf, Sem.run_pure, i1, hw1, hw2]
            rw [if_neg (by
              rw [i2]
              have : (j.bytes : Int) * m = m * j.bytes := Int.mul_comm _ _
              simp only [this, Bool.or_eq_true, decide_eq_true_eq]; omega)]
            simp only [Sem.run_bind, run_askRoom, Result.andThen_ok, hJ.run_size]
            by_cases h0 : m.toNat * j.size = 0
            · rw [if_pos h0]
              have e3 : ∀ g : Nat → Value, (Array.range (m.toNat * j.size)).map g = #[] := fun g => by rw [h0]; simp
              simp only [Sem.run_bind, Sem.run_pure, Result.andThen_ok, e3]
              rw [hrow, e3]
              rfl
            · rw [if_neg h0]
              simp only [Sem.run_bind, z1, Sem.run_pure, Result.andThen_ok, ← hrow]
              rfl
          · refine step_new hi hfr _ _ 0 row.size ⟨row, e, 0, 0, ?_, ⟨rfl, ?_⟩, .inr (Nat.le_refl _), fun q a ha => ?_⟩
            · show (s.w.alloc (.cells row e)).heap[s.w.heap.size]? = _
              exact Array.getElem?_push_size
            · rw [zerosA_len, hsz]; simp only [Nat.zero_add]; exact hle
            · have hl := zeros_lr z2.cells (by omega) (m.toNat * j.size)
              have ha' : (zerosA j.zero.cells (m.toNat * j.size))[q]? = some a := by
                have hq := (List.getElem?_eq_some_iff.1 ha).1
                rw [zerosA_len] at hq
                simp only [zerosA, List.getElem?_map, List.getElem?_range hq, Option.map_some] at ha
                simp only [zerosA, List.getElem?_map, List.getElem?_range (Nat.lt_of_lt_of_le hq hle), Option.map_some]
                exact ha
              obtain ⟨cv, g1, g2⟩ := hl.get ha'
              rw [← hrow] at g1
              exact ⟨cv, by rw [Nat.zero_add, ← Array.getElem?_toList]; exact g1, CS.new_vr hi.ilt hfr _ _ _ g2⟩
          · refine VR.slc _ 0 n.toNat j.size (some m.toNat) ⟨s.w.heap.size, 0, row.size⟩ 0 m.toNat (by simp [CS.new]) (.inr rfl) (by omega) (by simp [hsz]) (fun k hk => by cases hk; rfl)
        · cases h
      · cases h
    · cases h
  · cases h

/-- A rune at a place of a text, and how many bytes it takes: the model's own decoding, of a list. -/
def decL (l : List UInt8) (i : Nat) : Nat × Nat :=
  let at' (k : Nat) : Nat := (l.getD (i + k) 0).toNat
  let cont (k : Nat) : Bool := decide (i + k < l.length) && at' k / 64 == 2
  let b0 := at' 0
  if b0 < 0x80 then (b0, 1)
  else if b0 / 32 == 6 && cont 1 then
    let c := (b0 % 32) * 64 + at' 1 % 64
    if c ≥ 0x80 then (c, 2) else (Utf8.runeError, 1)
  else if b0 / 16 == 14 && cont 1 && cont 2 then
    let c := (b0 % 16) * 4096 + (at' 1 % 64) * 64 + at' 2 % 64
    if c ≥ 0x800 && Utf8.valid c then (c, 3) else (Utf8.runeError, 1)
  else if b0 / 8 == 30 && cont 1 && cont 2 && cont 3 then
    let c := (b0 % 8) * 262144 + (at' 1 % 64) * 4096 + (at' 2 % 64) * 64 + at' 3 % 64
    if c ≥ 0x10000 && Utf8.valid c then (c, 4) else (Utf8.runeError, 1)
  else (Utf8.runeError, 1)
theorem get!_eq (b : ByteArray) (i : Nat) : b.get! i = b.data.toList.getD i 0 := by
  show b.data[i]! = _
  rw [getElem!_def, List.getD_eq_getElem?_getD, Array.getElem?_toList]
  cases b.data[i]? <;> rfl
theorem dec_eq (b : ByteArray) (i : Nat) : Utf8.decode b i = decL b.data.toList i := by
  unfold Utf8.decode decL
  simp only [get!_eq]
  rfl

def rangeA (Γ : Ctx) (T : Nat) (x : AV) (H : AH) : Option (AV × AH) :=
  match Γ.ty T, x with
  | some i, .str b => match i.desc with
    | .string => some (.ptr (some (H.nxt, 0)), H.new (.iter b 0))
    | _ => none
  | _, _ => none
theorem range_ok (hΓ : Γ.Ok P) (hi : Inv H s) {T : Nat} {x v : AV} {c : Value} {H' : AH} (h : rangeA Γ T x H = some (v, H')) (hf : Fresh s H.nxt H'.nxt) (hx : VR s x c) : ∃ r s', (Instr.range T c).run P s.w = .ok r s'.w ∧ Step H s H' s' ∧ VR s' v r := by
  unfold rangeA at h
  split at h
  · rename_i i b hti
    have hT := hΓ.ty T i hti
    split at h
    · rename_i hd
      cases h
      obtain ⟨u, rfl, hu⟩ := hx.of_str
      have hfr : s.ρ H.nxt = none := hf _ (Nat.le_refl _) (by simp [AH.new])
      refine ⟨.pointer (some ⟨s.w.heap.size, 0, none⟩), s.new H.nxt (.stringIter u 0) 0 0, ?_, step_new hi hfr _ _ 0 0 ⟨rfl, u, ?_, hu⟩, ?_⟩
      · simp only [Instr.range, Sem.run_bind, hT.run_und, hd, Result.andThen_ok, Sem.run_pure]; rfl
      · show (s.w.alloc (.stringIter u 0)).heap[s.w.heap.size]? = _
        exact Array.getElem?_push_size
      · exact VR.mk_ptr (s := s.new H.nxt (.stringIter u 0) 0 0) (id := H.nxt) (off := 0) (loc := ⟨s.w.heap.size, 0, 0⟩) (by simp [CS.new]) rfl
    · cases h
  · cases h

def nextA (x : AV) (isString : Bool) (H : AH) : Option (AV × AH) :=
  match x with
  | .ptr (some (id, 0)) => match H.bl id with
    | some (.iter b pos) => if isString = true ∧ H.floor ≤ id then
        (if pos < b.length then some (.tup [.bool true, .int .i64 pos, .int .i32 (decL b pos).1], { H with bl := upd H.bl id (some (.iter b (pos + (decL b pos).2))) })
         else some (.tup [.bool false], H)) else none
    | _ => none
  | _ => none
theorem next_ok (hi : Inv H s) {x v : AV} {c : Value} {is : Bool} {H' : AH} (h : nextA x is H = some (v, H')) (hx : VR s x c) (ty : TypeId) : ∃ r s', (Instr.next c is ty).run P s.w = .ok r s'.w ∧ Step H s H' s' ∧ VR s' v r := by
  unfold nextA at h
  split at h
  · rename_i id
    split at h
    · rename_i b pos hbl
      split at h
      · rename_i hc
        obtain ⟨rfl, hfl⟩ := hc
        obtain ⟨loc, rfl, hr⟩ := hx.of_ptr
        obtain ⟨loc', g1, _, g2, u, g3, g4⟩ := hi.blk _ _ hbl
        rw [hr] at g1; cases g1
        have hoff : loc.off + 0 = 0 := by omega
        rw [hoff]
        have hsz : u.size = b.length := by rw [← g4]; rfl
        have hget : (getObj loc.blk).run P s.w = .ok (.stringIter u pos) s.w := by simp [getObj, Sem.run, g3]
        split at h
        · rename_i hlt
          cases h
          have hset : (setObj loc.blk (.stringIter u (pos + (decL b pos).2))).run P s.w = .ok () { s.w with heap := s.w.heap.setIfInBounds loc.blk (.stringIter u (pos + (decL b pos).2)) } := by simp [setObj, Sem.run, g3]
          refine ⟨.tuple #[.bool true, goInt pos, .int .i32 (decL b pos).1], { s with w := { s.w with heap := s.w.heap.setIfInBounds loc.blk (.stringIter u (pos + (decL b pos).2)) } }, ?_, (step_put (B := .iter b (pos + (decL b pos).2)) hi hbl hfl hr { s.w with heap := s.w.heap.setIfInBounds loc.blk (.stringIter u (pos + (decL b pos).2)) } rfl rfl rfl (by simp) (fun q hq => ?_) fun hv => ⟨g2, u, ?_, g4⟩).1, ?_⟩
          · simp only [Instr.next, Sem.run_bind, hget, Result.andThen_ok, dec_eq, g4]
            rw [if_pos (by omega)]
            simp only [Sem.run_bind, hset, Result.andThen_ok]; rfl
          · simp only [Array.getElem?_setIfInBounds]; rw [if_neg (fun e => hq e.symm)]
          · have hlt := hi.rlt _ _ hr
            simp only [Array.getElem?_setIfInBounds, if_pos hlt]; simp
          · exact VR.tup' (LR.cons (.pv _ _ (.bool _)) (LR.cons (.pv _ _ (.int _ _)) (LR.cons (.pv _ _ (.int _ _)) LR.nil)))
        · rename_i hlt
          cases h
          refine ⟨.tuple #[.bool false], s, ?_, Step.refl hi, VR.tup' (LR.cons (.pv _ _ (.bool _)) LR.nil)⟩
          simp only [Instr.next, Sem.run_bind, hget, Result.andThen_ok]
          rw [if_neg (by omega)]; rfl
      · cases h
    · cases h
  · cases h
end
end Go.Proofs.YtkgghgigjeihjaaGreat.Sim
