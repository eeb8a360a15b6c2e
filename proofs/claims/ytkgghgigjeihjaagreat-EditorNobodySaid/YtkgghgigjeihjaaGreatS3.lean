/- The operations: memory, structs, slices. -/
import Derived.Test.YtkgghgigjeihjaaGreatS2
namespace Go.Proofs.YtkgghgigjeihjaaGreat.Sim
set_option linter.unusedVariables false
set_option linter.unusedSimpArgs false
section
variable {P : Program} {Γ : Ctx} {s : CS} {H : AH}

theorem st_ok (hΓ : Γ.Ok P) (hi : Inv H s) {T : Nat} {p v : AV} {c d : Value} {H' : AH} (h : stAt Γ T p v H = some H') (hp : VR s p c) (hv : VR s v d) :
    ∃ s', (Instr.storeAt T c d).run P s.w = .ok () s'.w ∧ Step H s H' s' := by
  unfold stAt at h
  split at h
  · cases h
  · rename_i i hti
    have hT := hΓ.ty T i hti
    split at h
    · rename_i id off
      split at h
      · rename_i vs hbl
        split at h
        · rename_i hc
          obtain ⟨hc1, hc2, hc3⟩ := hc
          unfold AH.put at h
          rw [hbl] at h
          simp only at h
          split at h
          · rename_i hfl
            cases h
            cases hp with
            | pv _ _ h => cases h
            | ptr _ _ loc hr =>
              have hcs := hv.cells
              obtain ⟨s', h1, h2⟩ := put_cells (P := P) hi hbl hfl hr off _ _ hcs hc2 hc3
              refine ⟨s', ?_, h2⟩
              have hn : d.cells.size = i.size := by rw [← hc1, hcs.1]; simp
              simp [Instr.storeAt, Instr.sureAddr, storeVar, hT.run_size, hn, h1]
          · cases h
        · cases h
      · cases h
    · cases h

/-- A new block of cells. -/
theorem new_cells (hi : Inv H s) (hf : s.ρ H.nxt = none) (T : TypeId) {l : List AV} {cs : Array Value} (hl : LR s l cs.toList) :
    Step H s (H.new (.cells l)) (s.new H.nxt (.cells cs T) 0 cs.size) := by
  refine step_new hi hf _ _ 0 cs.size ⟨cs, T, 0, 0, ?_, ⟨rfl, ?_⟩, .inr (Nat.le_refl _), fun i x hx => ?_⟩
  · show (s.w.alloc (.cells cs T)).heap[s.w.heap.size]? = _
    exact Array.getElem?_push_size
  · have := hl.1; simp at this ⊢; omega
  · obtain ⟨c, h1, h2⟩ := hl.get hx
    exact ⟨c, by simpa using h1, CS.new_vr hi.ilt hf _ _ _ h2⟩
theorem new_ptr (id : Nat) (o : Obj) (size : Nat) : VR (s.new id o 0 size) (.ptr (some (id, 0))) (.pointer (some ⟨s.w.heap.size, 0, none⟩)) := by
  have := VR.ptr (s := s.new id o 0 size) id 0 ⟨s.w.heap.size, 0, size⟩ (by simp [CS.new])
  exact this

def fillA (place : Nat → Option (Nat × Nat)) (cells : List AV) : List (Nat × AV) → Option (List AV)
  | [] => some cells
  | (i, v) :: rest =>
    match place i with
    | none => none
    | some (off, size) => if v.cells.length ≠ size ∨ cells.length < off + v.cells.length then none else fillA place (setL cells off v.cells) rest

theorem fold_lr (off : Nat) : ∀ (vs : List AV) (cs : List Value) (k : Nat) (l : List AV) (a : Array Value), LR s vs cs → LR s l a.toList →
    LR s (setL l (off + k) vs) ((cs.zipIdx k).foldl (fun (x : Array Value) (y : Value × Nat) => x.setIfInBounds (off + y.2) y.1) a).toList
  | [], cs, k, l, a, h, hl => by
    rw [LR.of_nil h]; exact hl
  | v :: r, cs, k, l, a, h, hl => by
    obtain ⟨c, cs', rfl, h1, h2⟩ := h.of_cons
    simp only [setL, List.zipIdx_cons, List.foldl_cons]
    have := fold_lr off r cs' (k + 1) (l.set (off + k) v) (a.setIfInBounds (off + k) c) h2 (by rw [Array.toList_setIfInBounds]; exact hl.set _ h1)
    rw [show off + k + 1 = off + (k + 1) by omega]; exact this

/-- The parts of a literal, one by one. -/
def PRt (s : CS) : List (Nat × AV) → List (Nat × Value) → Prop
  | [], [] => True
  | (i, v) :: r, (j, c) :: q => i = j ∧ VR s v c ∧ PRt s r q
  | _, _ => False
theorem fill_ok (place : Nat → Option (Nat × Nat)) : ∀ (ps : List (Nat × AV)) (qs : List (Nat × Value)) (l l' : List AV) (a : Array Value), PRt s ps qs → LR s l a.toList → fillA place l ps = some l' →
    ∃ a', Instr.fill place a qs = some a' ∧ LR s l' a'.toList
  | [], qs, l, l', a, hp, hl, h => by
    cases qs with
    | nil => cases h; exact ⟨a, rfl, hl⟩
    | cons q qs => exact hp.elim
  | (i, v) :: r, qs, l, l', a, hp, hl, h => by
    cases qs with
    | nil => exact hp.elim
    | cons q qs =>
      obtain ⟨j, c⟩ := q
      obtain ⟨rfl, hv, hp⟩ := hp
      simp only [fillA] at h
      simp only [Instr.fill]
      split at h
      · cases h
      · rename_i off size hpl
        rw [hpl]
        simp only
        split at h
        · cases h
        · rename_i hc
          have hvc := hv.cells
          have e1 : c.cells.size = v.cells.length := by have := hvc.1; simp at this; omega
          have e2 : a.size = l.length := by have := hl.1; simp at this; omega
          have hcond : (decide (c.cells.size ≠ size) || decide (off + c.cells.size > a.size)) = false := by
            rw [e1, e2]; simp only [not_or, Decidable.not_not] at hc
            simp [hc.1]; omega
          rw [if_neg (by rw [hcond]; decide)]
          refine fill_ok place r qs _ _ _ hp ?_ h
          have := fold_lr off v.cells c.cells.toList 0 l a hvc hl
          rw [← Array.foldl_toList, Array.toList_zipIdx]
          exact this

def optParts (t : List AV) : List (Nat × Operand) → Option (List (Nat × AV))
  | [] => some []
  | (i, x) :: r => match opv t x, optParts t r with
    | some v, some l => some ((i, v) :: l)
    | _, _ => none
theorem optParts_ok {t : List AV} {a : Act} (ht : LR s t a.tmps.toList) : ∀ {ps : List (Nat × Operand)} {l : List (Nat × AV)}, optParts t ps = some l → PRt s l (ps.map fun (i, x) => (i, a.eval x))
  | [], l, h => by cases h; trivial
  | (i, x) :: r, l, h => by
    simp only [optParts] at h
    split at h
    · rename_i v l' h1 h2
      cases h
      exact ⟨rfl, opv_vr ht h1, optParts_ok ht h2⟩
    · cases h

def sizes (Γ : Ctx) : List Field → Option (List (Nat × Nat))
  | [] => some []
  | f :: r => match Γ.ty f.type, sizes Γ r with
    | some i, some l => some ((f.offset, i.size) :: l)
    | _, _ => none
theorem sizes_ok (hΓ : Γ.Ok P) : ∀ (fs : List Field) (l : List (Nat × Nat)) (w : World), sizes Γ fs = some l → (fs.mapM (m := Sem) fun f => do pure (f.offset, ← sizeOf f.type)).run P w = .ok l w
  | [], l, w, h => by cases h; rfl
  | f :: r, l, w, h => by
    simp only [sizes] at h
    split at h
    · rename_i i l' h1 h2
      cases h
      have ih := sizes_ok hΓ r l' w h2
      simp only [List.mapM_cons, Sem.run_bind, Sem.run_pure, Result.andThen_ok, (hΓ.ty _ _ h1).run_size, ih]
    · cases h

def buildA (Γ : Ctx) (T : Nat) (ps : List (Nat × AV)) : Option AV :=
  match Γ.ty T with
  | none => none
  | some i => match i.desc with
    | .struct fs => match sizes Γ fs.toList with
      | none => none
      | some places => (fillA (fun k => places[k]?) i.zero.cells ps).map .agg
    | .array _ e => match Γ.ty e with
      | none => none
      | some j => (fillA (fun k => some (k * j.size, j.size)) i.zero.cells ps).map .agg
    | _ => none
theorem build_ok (hΓ : Γ.Ok P) {T : Nat} {ps : List (Nat × AV)} {qs : List (Nat × Value)} {v : AV} (h : buildA Γ T ps = some v) (hp : PRt s ps qs) (w : World) :
    ∃ c, (Instr.build T qs.toArray).run P w = .ok c w ∧ VR s v c := by
  unfold buildA at h
  split at h
  · cases h
  · rename_i i hti
    have hT := hΓ.ty T i hti
    obtain ⟨z, hz, hzv⟩ := hT.run_zero (s := s) w
    simp only [Instr.build, Sem.run_bind, hz, Result.andThen_ok, hT.run_und]
    split at h
    · rename_i fs hd
      split at h
      · cases h
      · rename_i places hpl
        simp only [Option.map_eq_some_iff] at h
        obtain ⟨l, h1, rfl⟩ := h
        obtain ⟨a', e1, e2⟩ := fill_ok _ ps qs _ _ z.cells hp hzv.cells h1
        have hm := sizes_ok hΓ fs.toList places w hpl
        rw [hd]
        have hm2 : (fs.mapM (m := Sem) fun f => do pure (f.offset, ← sizeOf f.type)).run P w = .ok places.toArray w := by
          rw [← Array.toArray_toList (xs := fs), List.mapM_toArray, Sem.run_map, hm]; rfl
        simp only [Sem.run_bind, hm2, Result.andThen_ok, List.getElem?_toArray, e1]
        exact ⟨_, rfl, VR.agg' e2⟩
    · rename_i n e hd
      split at h
      · cases h
      · rename_i j hj
        simp only [Option.map_eq_some_iff] at h
        obtain ⟨l, h1, rfl⟩ := h
        obtain ⟨a', e1, e2⟩ := fill_ok _ ps qs _ _ z.cells hp hzv.cells h1
        rw [hd]
        simp only [Sem.run_bind, (hΓ.ty _ _ hj).run_size, Result.andThen_ok, e1]
        exact ⟨_, rfl, VR.agg' e2⟩
    · cases h

/-- Zero cells, one row behind the other. -/
def zerosA (z : List AV) (n : Nat) : List AV := (List.range n).map fun i => z.getD (i % z.length) (.tup [])
theorem zeros_lr {z : List AV} {c : Array Value} (h : LR s z c.toList) (hz : 0 < z.length) (n : Nat) : LR s (zerosA z n) ((Array.range n).map (fun i => c[i % c.size]!)).toList := by
  have hc : c.size = z.length := by have := h.1; simp at this; omega
  refine ⟨by simp [zerosA], fun i x d h1 h2 => ?_⟩
  have hi : i < n := by
    have := (List.getElem?_eq_some_iff.1 h1).1
    simpa [zerosA] using this
  have hm : i % z.length < z.length := Nat.mod_lt _ hz
  simp only [zerosA, List.getElem?_map, List.getElem?_range hi, Option.map_some, Option.some.injEq] at h1
  simp only [Array.toList_map, Array.toList_range, List.getElem?_map, List.getElem?_range hi, Option.map_some, Option.some.injEq] at h2
  subst h1; subst h2
  obtain ⟨d, e1, e2⟩ := h.get (List.getElem?_eq_getElem hm)
  have e3 : c[i % c.size]! = d := by
    rw [hc]
    simp only [Array.getElem?_toList] at e1
    rw [getElem!_def, e1]
  rw [e3, List.getD_eq_getElem?_getD, List.getElem?_eq_getElem hm]; exact e2

def buildSliceA (Γ : Ctx) (T : Nat) (n : Nat) (ps : List (Nat × AV)) (id : Nat) : Option (AV × ABlk) :=
  match Γ.ty T with
  | none => none
  | some i => match i.desc with
    | .slice e => match Γ.ty e with
      | none => none
      | some j => if 0 < j.size ∧ j.zero.cells.length = j.size ∧ n * j.size ≤ 16777216 then
          (fillA (fun k => some (k * j.size, j.size)) (zerosA j.zero.cells (n * j.size)) ps).map fun l => (.slc id 0 n j.size (some n), .cells l)
        else none
    | _ => none
theorem fillA_len (place : Nat → Option (Nat × Nat)) : ∀ (ps : List (Nat × AV)) (l l' : List AV), fillA place l ps = some l' → l'.length = l.length
  | [], l, l', h => by cases h; rfl
  | (i, v) :: r, l, l', h => by
    simp only [fillA] at h
    split at h
    · cases h
    · split at h
      · cases h
      · rw [fillA_len place r _ _ h, setL_len]
theorem zerosA_len (z : List AV) (n : Nat) : (zerosA z n).length = n := by simp [zerosA]
theorem buildSlice_ok (hΓ : Γ.Ok P) (hi : Inv H s) (hf : s.ρ H.nxt = none) {T n : Nat} {ps : List (Nat × AV)} {qs : List (Nat × Value)} {v : AV} {B : ABlk} (h : buildSliceA Γ T n ps H.nxt = some (v, B)) (hp : PRt s ps qs) :
    ∃ c s', (Instr.buildSlice T n qs.toArray).run P s.w = .ok c s'.w ∧ Step H s (H.new B) s' ∧ VR s' v c := by
  unfold buildSliceA at h
  split at h
  · cases h
  · rename_i i hti
    have hT := hΓ.ty T i hti
    split at h
    · rename_i e hd
      split at h
      · cases h
      · rename_i j hj
        have hJ := hΓ.ty e j hj
        split at h
        · rename_i hc
          obtain ⟨hc1, hc2, hc3⟩ := hc
          simp only [Option.map_eq_some_iff] at h
          obtain ⟨l, h1, h2⟩ := h
          cases h2
          obtain ⟨z, hz, hzv⟩ := hJ.run_zero (s := s) s.w
          have hzl := zeros_lr hzv.cells (by omega) (n * j.size)
          obtain ⟨a', e1, e2⟩ := fill_ok _ ps qs _ _ _ hp hzl h1
          have hlen : a'.size = n * j.size := by
            have h3 := e2.1
            rw [fillA_len _ _ _ _ h1, zerosA_len] at h3
            simpa using h3.symm
          refine ⟨.slice (some ⟨s.w.heap.size, 0, none⟩) n n, _, ?_, new_cells hi hf e e2, ?_⟩
          · simp only [Instr.buildSlice, Sem.run_bind, hT.run_und, hd, Result.andThen_ok, hJ.run_size]
            rw [if_neg (by omega)]
            by_cases h0 : n * j.size = 0
            · rw [if_pos h0]
              simp only [Sem.run_bind, Sem.run_pure, Result.andThen_ok]
              have e3 : ∀ g : Nat → Value, (Array.range (n * j.size)).map g = #[] := fun g => by rw [h0]; simp
              rw [e3] at e1
              rw [e3, e1]
              rfl
            · rw [if_neg h0]
              simp only [Sem.run_bind, hz, Sem.run_pure, Result.andThen_ok, e1]
              rfl
          · refine VR.slc _ 0 n j.size (some n) ⟨s.w.heap.size, 0, a'.size⟩ 0 n (by simp [CS.new]) (.inr rfl) (Nat.le_refl _) (by simp [hlen]) (fun k hk => by cases hk; rfl)
        · cases h
    · cases h

def fieldAddrA (Γ : Ctx) (T : Nat) (p : AV) (k : Nat) : Option AV :=
  match Γ.ty T with
  | none => none
  | some i => match i.desc with
    | .struct fs => match fs.toList[k]? with
      | none => none
      | some f => match Γ.ty f.type with
        | none => none
        | some j => if j.size = 0 then none else match p with
          | .ptr (some (id, off)) => some (.ptr (some (id, off + f.offset)))
          | .cptr cells => some (.cptr (cells.drop f.offset))
          | _ => none
    | _ => none
theorem cptr_drop {cells : List AV} {b o : Nat} {f : Nat → Value} (hI : s.I b) (hc : ∀ (i : Nat) (x : AV), cells[i]? = some x → s.w.cell? ⟨b, o + i, none⟩ = some (f i)) (hv : ∀ (i : Nat) (x : AV), cells[i]? = some x → PV s x (f i)) (k : Nat) :
    VR s (.cptr (cells.drop k)) (.pointer (some ⟨b, o + k, none⟩)) :=
  .cptr _ b (o + k) (fun i => f (k + i)) hI (fun i x hx => by rw [List.getElem?_drop] at hx; rw [Nat.add_assoc]; exact hc _ _ hx) (fun i x hx => by rw [List.getElem?_drop] at hx; exact hv _ _ hx)
theorem fieldAddr_ok (hΓ : Γ.Ok P) {T k : Nat} {p v : AV} {c : Value} (h : fieldAddrA Γ T p k = some v) (hp : VR s p c) (w : World) : ∃ c', (Instr.fieldAt T c k).run P w = .ok c' w ∧ VR s v c' := by
  unfold fieldAddrA at h
  split at h
  · cases h
  · rename_i i hti
    have hT := hΓ.ty T i hti
    split at h
    · rename_i fs hd
      split at h
      · cases h
      · rename_i f hf
        have hf' : fs[k]? = some f := by simpa using hf
        split at h
        · cases h
        · rename_i j hj
          split at h
          · cases h
          · rename_i hsz
            have hJ := hΓ.ty _ j hj
            simp only [Instr.fieldAt, Sem.run_bind, hT.run_und, hd, Result.andThen_ok, hf']
            split at h
            · rename_i id off
              cases h
              cases hp with
              | pv _ _ h => cases h
              | ptr _ _ loc hr =>
                refine ⟨.pointer (some ⟨loc.blk, loc.off + off + f.offset, none⟩), by simp only [Instr.sureAddr, Sem.run_pure, Result.andThen_ok, fieldPlace, Sem.run_bind, hJ.run_size, if_neg hsz, add_at], ?_⟩
                have := VR.ptr (s := s) id (off + f.offset) loc hr
                rw [← Nat.add_assoc] at this; exact this
            · rename_i cells
              cases h
              cases hp with
              | pv _ _ h => cases h
              | cptr _ b o g hI hc hv =>
                exact ⟨.pointer (some ⟨b, o + f.offset, none⟩), by simp only [Instr.sureAddr, Sem.run_pure, Result.andThen_ok, fieldPlace, Sem.run_bind, hJ.run_size, if_neg hsz, add_at], cptr_drop hI hc hv _⟩
            · cases h
    · cases h

def partA (Γ : Ctx) (T : Nat) (cs : List AV) (off : Nat) : Option AV :=
  match Γ.ty T with
  | none => none
  | some i => if isAggD i.desc then some (.agg ((cs.drop off).take i.size)) else cs[off]?
theorem part_ok (hΓ : Γ.Ok P) {T off : Nat} {cs : List AV} {a : Array Value} {v : AV} (h : partA Γ T cs off = some v) (hl : LR s cs a.toList) (w : World) : ∃ c, (part T a off).run P w = .ok c w ∧ VR s v c := by
  unfold partA at h
  split at h
  · cases h
  · rename_i i hti
    have hT := hΓ.ty T i hti
    simp only [part, Sem.run_bind, hT.run_isAgg, Result.andThen_ok]
    split at h
    · rename_i hagg
      cases h
      rw [if_pos hagg]
      simp only [Sem.run_bind, hT.run_size, Result.andThen_ok]
      refine ⟨_, rfl, VR.agg' ?_⟩
      have e : (a.extract off (off + i.size)).toList = (a.toList.drop off).take i.size := by simp
      rw [e]
      exact (hl.drop off).take _
    · rename_i hagg
      rw [if_neg hagg]
      obtain ⟨c, h1, h2⟩ := hl.get h
      have h1' : a[off]? = some c := by simpa using h1
      simp only [h1']
      exact ⟨c, rfl, h2⟩

def fieldA (Γ : Ctx) (T : Nat) (x : AV) (k : Nat) : Option AV :=
  match Γ.ty T, x with
  | some i, .agg cs => match i.desc with
    | .struct fs => match fs.toList[k]? with
      | some f => partA Γ f.type cs f.offset
      | none => none
    | _ => none
  | _, _ => none
theorem field_ok (hΓ : Γ.Ok P) {T k : Nat} {p v : AV} {c : Value} (h : fieldA Γ T p k = some v) (hp : VR s p c) (w : World) : ∃ c', (Instr.field T c k).run P w = .ok c' w ∧ VR s v c' := by
  unfold fieldA at h
  split at h
  · rename_i i cs hti
    have hT := hΓ.ty T i hti
    obtain ⟨a, rfl, hl⟩ := hp.of_agg
    split at h
    · rename_i fs hd
      split at h
      · rename_i f hf
        have hf' : fs[k]? = some f := by simpa using hf
        simp only [Instr.field, Sem.run_bind, hT.run_und, hd, Result.andThen_ok, hf', asAgg, Sem.run_pure]
        exact part_ok hΓ h hl w
      · cases h
    · cases h
  · cases h

def indexAddrA (Γ : Ctx) (T : Nat) (x ix : AV) : Option AV :=
  match Γ.ty T, ix with
  | some i, .int k n => match i.desc, x with
    | .array len e, .ptr (some (id, off)) => match Γ.ty e with
      | some j => if 0 ≤ n ∧ n < (len : Int) then some (.ptr (some (id, off + n.toNat * j.size))) else none
      | none => none
    | .array len e, .cptr cells => match Γ.ty e with
      | some j => if 0 ≤ n ∧ n < (len : Int) then some (.cptr (cells.drop (n.toNat * j.size))) else none
      | none => none
    | .slice e, .slc id off len es _ => match Γ.ty e with
      | some j => if 0 ≤ n ∧ n < (len : Int) ∧ es = j.size then some (.ptr (some (id, off + n.toNat * j.size))) else none
      | none => none
    | .slice e, .lst cells len _ => match Γ.ty e with
      | some j => if 0 ≤ n ∧ n < (len : Int) then some (.cptr (cells.drop (n.toNat * j.size))) else none
      | none => none
    | _, _ => none
  | _, _ => none
theorem VR.of_int {k : IntKind} {n : Int} {c : Value} (h : VR s (.int k n) c) : c = .int k n := by
  cases h with
  | pv _ _ h => cases h; rfl
theorem VR.of_bool {b : Bool} {c : Value} (h : VR s (.bool b) c) : c = .bool b := by
  cases h with
  | pv _ _ h => cases h; rfl
theorem VR.of_str {l : List UInt8} {c : Value} (h : VR s (.str l) c) : ∃ b : ByteArray, c = .string b ∧ b.data.toList = l := by
  cases h with
  | pv _ _ h => cases h with
    | str _ b h => exact ⟨b, rfl, h⟩
theorem VR.of_lst {cells : List AV} {n : Nat} {e : Bool} {c : Value} (h : VR s (.lst cells n e) c) : (cells = [] ∧ n = 0 ∧ c = .slice none 0 0) ∨ ∃ (b o k : Nat) (f : Nat → Value), c = .slice (some ⟨b, o, none⟩) n k ∧ s.I b ∧ n ≤ k ∧ (e = true → k = n) ∧
    (∀ (i : Nat) (x : AV), cells[i]? = some x → s.w.cell? ⟨b, o + i, none⟩ = some (f i)) ∧ (∀ (i : Nat) (x : AV), cells[i]? = some x → PV s x (f i)) := by
  cases h with
  | pv _ _ h => cases h with
    | lst0 e => exact .inl ⟨rfl, rfl, rfl⟩
    | lst _ _ _ b o c f hI hn he hc hv => exact .inr ⟨b, o, c, f, rfl, hI, hn, he, hc, hv⟩
theorem VR.of_slc {id off len es : Nat} {cap : Option Nat} {c : Value} (h : VR s (.slc id off len es cap) c) : ∃ (loc : Loc) (o k : Nat), c = .slice (some ⟨loc.blk, o, none⟩) len k ∧ s.ρ id = some loc ∧ (k = 0 ∨ o = loc.off + off) ∧ len ≤ k ∧ loc.off + off + k * es ≤ loc.size ∧ ∀ m, cap = some m → k = m := by
  cases h with
  | pv _ _ h => cases h
  | slc _ _ _ _ _ loc o c h ho hl hc hk => exact ⟨loc, o, c, rfl, h, ho, hl, hc, hk⟩
theorem VR.of_ptr {id off : Nat} {c : Value} (h : VR s (.ptr (some (id, off))) c) : ∃ loc, c = .pointer (some ⟨loc.blk, loc.off + off, none⟩) ∧ s.ρ id = some loc := by
  cases h with
  | pv _ _ h => cases h
  | ptr _ _ loc h => exact ⟨loc, rfl, h⟩
theorem VR.of_cptr {cells : List AV} {c : Value} (h : VR s (.cptr cells) c) : ∃ (b o : Nat) (f : Nat → Value), c = .pointer (some ⟨b, o, none⟩) ∧ s.I b ∧
    (∀ (i : Nat) (x : AV), cells[i]? = some x → s.w.cell? ⟨b, o + i, none⟩ = some (f i)) ∧ (∀ (i : Nat) (x : AV), cells[i]? = some x → PV s x (f i)) := by
  cases h with
  | pv _ _ h => cases h
  | cptr _ b o f hI hc hv => exact ⟨b, o, f, rfl, hI, hc, hv⟩
theorem VR.mk_ptr {id off : Nat} {loc : Loc} (h : s.ρ id = some loc) {o : Nat} (ho : o = loc.off + off) : VR s (.ptr (some (id, off))) (.pointer (some ⟨loc.blk, o, none⟩)) := by
  subst ho; exact .ptr id off loc h

theorem indexAddr_ok (hΓ : Γ.Ok P) {T : Nat} {x ix v : AV} {c d : Value} (h : indexAddrA Γ T x ix = some v) (hx : VR s x c) (hix : VR s ix d) (w : World) : ∃ c', (Instr.indexAt T c d).run P w = .ok c' w ∧ VR s v c' := by
  unfold indexAddrA at h
  split at h
  · rename_i i k n hti
    have hT := hΓ.ty T i hti
    have := hix.of_int
    subst this
    split at h
    · rename_i len e id off hd
      split at h
      · rename_i j hj
        split at h
        · rename_i hc
          cases h
          obtain ⟨loc, rfl, hr⟩ := hx.of_ptr
          have hJ := hΓ.ty _ j hj
          refine ⟨.pointer (some ⟨loc.blk, loc.off + off + n.toNat * j.size, none⟩), by simp only [Instr.indexAt, asIntOf, Sem.run_bind, Sem.run_pure, Result.andThen_ok, hT.run_und, hd, Instr.sureAddr, if_pos hc, hJ.run_size, add_at], VR.mk_ptr hr (by omega)⟩
        · cases h
      · cases h
    · rename_i len e cells hd
      split at h
      · rename_i j hj
        split at h
        · rename_i hc
          cases h
          obtain ⟨b, o, f, rfl, hI, h1, h2⟩ := hx.of_cptr
          have hJ := hΓ.ty _ j hj
          exact ⟨.pointer (some ⟨b, o + n.toNat * j.size, none⟩), by simp only [Instr.indexAt, asIntOf, Sem.run_bind, Sem.run_pure, Result.andThen_ok, hT.run_und, hd, Instr.sureAddr, if_pos hc, hJ.run_size, add_at], cptr_drop hI h1 h2 _⟩
        · cases h
      · cases h
    · rename_i e id off len es cap hd
      split at h
      · rename_i j hj
        split at h
        · rename_i hc
          cases h
          obtain ⟨loc, o, m, rfl, hr, ho, hl, hcap, _⟩ := hx.of_slc
          have hJ := hΓ.ty _ j hj
          have hc' : 0 ≤ n ∧ n < (len : Int) := ⟨hc.1, hc.2.1⟩
          have ho' : o = loc.off + off := ho.resolve_left (by omega)
          exact ⟨.pointer (some ⟨loc.blk, o + n.toNat * j.size, none⟩), by simp only [Instr.indexAt, asIntOf, Sem.run_bind, Sem.run_pure, Result.andThen_ok, hT.run_und, hd, if_pos hc', hJ.run_size, add_at], VR.mk_ptr hr (by omega)⟩
        · cases h
      · cases h
    · rename_i e cells len ex hd
      split at h
      · rename_i j hj
        split at h
        · rename_i hc
          cases h
          have hJ := hΓ.ty _ j hj
          rcases hx.of_lst with ⟨_, h0, _⟩ | ⟨b, o, m, f, rfl, hI, _, _, h1, h2⟩
          · omega
          · exact ⟨.pointer (some ⟨b, o + n.toNat * j.size, none⟩), by simp only [Instr.indexAt, asIntOf, Sem.run_bind, Sem.run_pure, Result.andThen_ok, hT.run_und, hd, if_pos hc, hJ.run_size, add_at], cptr_drop hI h1 h2 _⟩
        · cases h
      · cases h
    · cases h
  · cases h

def indexA (Γ : Ctx) (T : Nat) (x ix : AV) : Option AV :=
  match Γ.ty T, ix with
  | some i, .int k n => match i.desc, x with
    | .array len e, .agg cs => match Γ.ty e with
      | some j => if 0 ≤ n ∧ n < (len : Int) then partA Γ e cs (n.toNat * j.size) else none
      | none => none
    | .string, .str l => if 0 ≤ n then (l[n.toNat]?).map fun b => .int .u8 b.toNat else none
    | _, _ => none
  | _, _ => none
theorem index_ok (hΓ : Γ.Ok P) {T : Nat} {x ix v : AV} {c d : Value} (h : indexA Γ T x ix = some v) (hx : VR s x c) (hix : VR s ix d) (w : World) : ∃ c', (Instr.index T c d).run P w = .ok c' w ∧ VR s v c' := by
  unfold indexA at h
  split at h
  · rename_i i k n hti
    have hT := hΓ.ty T i hti
    have := hix.of_int
    subst this
    split at h
    · rename_i len e cs hd
      split at h
      · rename_i j hj
        split at h
        · rename_i hc
          obtain ⟨a, rfl, hl⟩ := hx.of_agg
          have hJ := hΓ.ty _ j hj
          simp only [Instr.index, asIntOf, Sem.run_bind, Sem.run_pure, Result.andThen_ok, hT.run_und, hd, if_pos hc, hJ.run_size]
          exact part_ok hΓ h hl w
        · cases h
      · cases h
    · rename_i l hd
      split at h
      · rename_i hn
        simp only [Option.map_eq_some_iff] at h
        obtain ⟨b, h1, rfl⟩ := h
        obtain ⟨bs, rfl, rfl⟩ := hx.of_str
        have h2 : bs[n.toNat]? = some b := by
          have e : bs.data[n.toNat]? = some b := by simpa using h1
          obtain ⟨hlt, e⟩ := Array.getElem?_eq_some_iff.1 e
          have hlt' : n.toNat < bs.size := hlt
          rw [getElem?_pos bs n.toNat hlt']
          exact congrArg some e
        refine ⟨.int .u8 b.toNat, by simp only [Instr.index, asIntOf, Sem.run_bind, Sem.run_pure, Result.andThen_ok, hT.run_und, hd, if_pos hn, h2], .pv _ _ (.int _ _)⟩
      · cases h
    · cases h
  · cases h
end
end Go.Proofs.YtkgghgigjeihjaaGreat.Sim
