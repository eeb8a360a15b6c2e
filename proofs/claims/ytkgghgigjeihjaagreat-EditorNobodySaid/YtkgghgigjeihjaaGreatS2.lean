/- The operations: what each gives. -/
import Derived.Test.YtkgghgigjeihjaaGreatS1
import Derived.Laws.StructEq
import Derived.Lib.Strings
namespace Go.Proofs.YtkgghgigjeihjaaGreat.Sim
set_option linter.unusedVariables false
set_option linter.unusedSimpArgs false

/-- A type: what it is, its cells, its bytes, its zero value. -/
structure TI where
  desc : TypeDesc
  size : Nat
  bytes : Nat
  zero : AV

structure Ctx where
  fn : Nat → Option Func
  ty : Nat → Option TI
  quiet : Nat → Bool
  prim : Nat → Option (List AV → AH → Option (AV × AH))
  eqok : Nat → Bool

def absC : Value → Option AV
  | .bool b => some (.bool b)
  | .int k n => some (.int k n)
  | .string s => some (.str s.data.toList)
  | .pointer none => some (.ptr none)
  | .slice none 0 0 => some (.lst [] 0 true)
  | .map none => some (.map none)
  | .func g a b => if a.size = 0 ∧ b.size = 0 then some (.fn g [] []) else none
  | .nilFunc => some .nilFn
  | _ => none
def absL : List Value → Option (List AV)
  | [] => some []
  | c :: r => match absC c, absL r with
    | some x, some l => some (x :: l)
    | _, _ => none
def absV : Value → Option AV
  | .agg cs => (absL cs.toList).map .agg
  | .tuple vs => (absL vs.toList).map .tup
  | v => absC v

structure TyOk (P : Program) (t : Nat) (i : TI) : Prop where
  und : P.underlying t = some i.desc
  info : ∃ inf z, P.info? t = some inf ∧ inf.size = i.size ∧ inf.bytes = i.bytes ∧ inf.zero = some z ∧ absV z = some i.zero

structure Ctx.Ok (Γ : Ctx) (P : Program) : Prop where
  mixed : P.follows .mixedOrders = true
  ty : ∀ t i, Γ.ty t = some i → TyOk P t i
  fn : ∀ f F, Γ.fn f = some F → P.funcs[f]? = some F ∧ F.name ≠ "runtime.NumGoroutine" ∧ F.body.isSome = true
  eqok : ∀ t, Γ.eqok t = true → P.eqGuardType P.depth t = false ∧ P.stoodInHeld t = false

def AV.cells : AV → List AV
  | .agg cs => cs
  | v => [v]
def AV.cell : AV → Bool
  | .agg _ | .tup _ => false
  | _ => true
def isAggD : TypeDesc → Bool
  | .struct _ | .array _ _ => true
  | _ => false

def opv (t : List AV) : Operand → Option AV
  | .tmp i => some (t.getD i (.tup []))
  | .const v => absV v
  | .func f => some (.fn (.func f) [] [])
  | .global _ => none
def opvs (t : List AV) : List Operand → Option (List AV)
  | [] => some []
  | x :: r => match opv t x, opvs t r with
    | some v, some l => some (v :: l)
    | _, _ => none

def setL (l : List AV) (o : Nat) : List AV → List AV
  | [] => l
  | v :: r => setL (l.set o v) (o + 1) r

def takeCells (d : TypeDesc) (n : Nat) (l : List AV) (o : Nat) : Option AV :=
  if isAggD d then (if o + n ≤ l.length then some (.agg ((l.drop o).take n)) else none) else l[o]?
def ldAt (Γ : Ctx) (T : Nat) (p : AV) (H : AH) : Option AV :=
  match Γ.ty T with
  | none => none
  | some i => match p with
    | .ptr (some (id, off)) => match H.bl id with
      | some (.cells vs) => takeCells i.desc i.size vs off
      | _ => none
    | .cptr cells => takeCells i.desc i.size cells 0
    | _ => none
def stAt (Γ : Ctx) (T : Nat) (p v : AV) (H : AH) : Option AH :=
  match Γ.ty T with
  | none => none
  | some i => match p with
    | .ptr (some (id, off)) => match H.bl id with
      | some (.cells vs) => if v.cells.length = i.size ∧ v.cells.all AV.cell = true ∧ off + v.cells.length ≤ vs.length then H.put id (.cells (setL vs off v.cells)) else none
      | _ => none
    | _ => none

section
variable {P : Program} {Γ : Ctx} {s : CS} {H : AH}

theorem absC_pv (c : Value) (v : AV) (h : absC c = some v) : PV s v c := by
  cases c with
  | bool b => cases h; exact .bool b
  | int k n => cases h; exact .int k n
  | string b => cases h; exact .str _ _ rfl
  | pointer a => cases a with
    | none => cases h; exact .ptr0
    | some a => cases h
  | slice a n c =>
    cases a with
    | some a => cases h
    | none =>
      match n, c with
      | 0, 0 => cases h; exact .lst0 true
      | 0, c + 1 => cases h
      | n + 1, c => cases h
  | map r => cases r with
    | none => cases h; exact .map0
    | some r => cases h
  | func g a b =>
    simp only [absC] at h
    split at h
    · rename_i e; cases h
      obtain ⟨e1, e2⟩ := e
      have h1 : a = #[] := Array.eq_empty_of_size_eq_zero e1
      have h2 : b = #[] := Array.eq_empty_of_size_eq_zero e2
      subst h1; subst h2; exact .fn0 g
    · cases h
  | nilFunc => cases h; exact .nilFn
  | _ => cases h
theorem absL_lr : ∀ (cs : List Value) (l : List AV), absL cs = some l → LR s l cs
  | [], l, h => by cases h; exact LR.nil
  | c :: r, l, h => by
    simp only [absL] at h
    split at h
    · rename_i x l' h1 h2
      cases h
      exact LR.cons (.pv _ _ (absC_pv c x h1)) (absL_lr r l' h2)
    · cases h
theorem absV_vr (c : Value) (v : AV) (h : absV c = some v) : VR s v c := by
  cases c with
  | agg cs =>
    simp only [absV, Option.map_eq_some_iff] at h
    obtain ⟨l, h1, rfl⟩ := h
    exact VR.agg' (absL_lr _ _ h1)
  | tuple cs =>
    simp only [absV, Option.map_eq_some_iff] at h
    obtain ⟨l, h1, rfl⟩ := h
    exact VR.tup' (absL_lr _ _ h1)
  | _ => exact .pv _ _ (absC_pv _ v h)

theorem VR.undef : VR s (.tup []) undef := VR.tup' LR.nil
theorem opv_vr {t : List AV} {a : Act} (ht : LR s t a.tmps.toList) {x : Operand} {v : AV} (h : opv t x = some v) : VR s v (a.eval x) := by
  cases x with
  | tmp i =>
    simp only [opv, Option.some.injEq] at h
    subst h
    simp only [Act.eval]
    rcases Nat.lt_or_ge i t.length with hi | hi
    · obtain ⟨c, h1, h2⟩ := ht.get (List.getElem?_eq_getElem hi)
      have e : a.tmps.getD i Go.undef = c := by
        rw [Array.getD_eq_getD_getElem?, ← Array.getElem?_toList, h1]; rfl
      rw [e, List.getD_eq_getElem?_getD, List.getElem?_eq_getElem hi]
      exact h2
    · have hsz : a.tmps.size ≤ i := by
        have h1 := ht.1
        simp only [Array.length_toList] at h1
        omega
      have hsl : t.length ≤ i := by omega
      have e : a.tmps.getD i Go.undef = Go.undef := by
        rw [Array.getD_eq_getD_getElem?, Array.getElem?_eq_none hsz]; rfl
      rw [e, List.getD_eq_getElem?_getD, List.getElem?_eq_none hsl]
      exact VR.undef
  | const c => exact absV_vr c v h
  | func f => cases h; exact .pv _ _ (.fn0 _)
  | global g => cases h
theorem opvs_lr {t : List AV} {a : Act} (ht : LR s t a.tmps.toList) : ∀ {xs : List Operand} {l : List AV}, opvs t xs = some l → LR s l (xs.map a.eval)
  | [], l, h => by cases h; exact LR.nil
  | x :: r, l, h => by
    simp only [opvs] at h
    split at h
    · rename_i v l' h1 h2
      cases h
      exact LR.cons (opv_vr ht h1) (opvs_lr ht h2)
    · cases h

theorem VR.cells {v : AV} {c : Value} (h : VR s v c) : LR s v.cells c.cells.toList := by
  cases h with
  | agg l cs hl h => exact ⟨by simpa [AV.cells, Value.cells] using hl, fun i x c h1 h2 => h i x c h1 (by simpa [Value.cells] using h2)⟩
  | pv v c h =>
    have h' := VR.pv v c h
    cases h <;> exact LR.cons h' LR.nil
  | tup l cs hl h => exact LR.cons (.tup l cs hl h) LR.nil
  | ptr id off loc h => exact LR.cons (.ptr id off loc h) LR.nil
  | cptr cells b o f hI hc hv => exact LR.cons (.cptr cells b o f hI hc hv) LR.nil
  | slc id off len es cap loc o c h ho hl hc hk => exact LR.cons (.slc id off len es cap loc o c h ho hl hc hk) LR.nil
  | map id loc h => exact LR.cons (.map id loc h) LR.nil
  | fn g a b a' b' ha hb h1 h2 => exact LR.cons (.fn g a b a' b' ha hb h1 h2) LR.nil
theorem VR.one {v : AV} {c : Value} (h : VR s v c) (hv : v.cell = true) : c.oneCell' = true := by
  cases h with
  | pv v c h => cases h <;> rfl
  | agg l cs hl h => cases hv
  | tup l cs hl h => cases hv
  | _ => rfl

theorem TyOk.run_und {t : Nat} {i : TI} (h : TyOk P t i) (w : World) : (underlying t).run P w = .ok i.desc w := by
  simp [underlying, h.und]
theorem TyOk.run_size {t : Nat} {i : TI} (h : TyOk P t i) (w : World) : (sizeOf t).run P w = .ok i.size w := by
  obtain ⟨inf, z, h1, h2, h3, h4, h5⟩ := h.info
  simp [sizeOf, typeInfo, h1, h2]
theorem TyOk.run_isAgg {t : Nat} {i : TI} (h : TyOk P t i) (w : World) : (isAgg t).run P w = .ok (isAggD i.desc) w := by
  simp only [isAgg, Sem.run_bind, h.run_und, Result.andThen_ok]
  cases i.desc <;> rfl
theorem TyOk.run_zero {t : Nat} {i : TI} (h : TyOk P t i) (w : World) : ∃ z, (zeroValue t).run P w = .ok z w ∧ VR s i.zero z := by
  obtain ⟨inf, z, h1, h2, h3, h4, h5⟩ := h.info
  exact ⟨z, by simp [zeroValue, typeInfo, h1, h4], absV_vr z _ h5⟩
theorem TyOk.run_info {t : Nat} {i : TI} (h : TyOk P t i) (w : World) : ∃ inf, (typeInfo t).run P w = .ok inf w ∧ inf.bytes = i.bytes := by
  obtain ⟨inf, z, h1, h2, h3, h4, h5⟩ := h.info
  exact ⟨inf, by simp [typeInfo, h1], h3⟩

theorem add_at (b o n : Nat) : (⟨b, o, none⟩ : Addr).add n = ⟨b, o + n, none⟩ := by
  unfold Addr.add; split <;> simp_all

/-- Reading at a place whose cells are known. -/
theorem loadVar_ok {T : Nat} {i : TI} (hT : TyOk P T i) (l : List AV) (o : Nat) (b p : Nat) (w : World) (hc : ∀ (j : Nat) (x : AV), l[j]? = some x → ∃ c, w.cell? ⟨b, p + j, none⟩ = some c ∧ VR s x c) {v : AV}
    (h : takeCells i.desc i.size l o = some v) : ∃ c, (loadVar T ⟨b, p + o, none⟩).run P w = .ok c w ∧ VR s v c := by
  unfold takeCells at h
  simp only [loadVar, Sem.run_bind, hT.run_isAgg, Result.andThen_ok]
  split at h
  · rename_i hagg
    split at h
    · rename_i hle
      cases h
      have hget : ∀ j, j < i.size → ∃ c, w.cell? ⟨b, p + (o + j), none⟩ = some c ∧ ∀ x, l[o + j]? = some x → VR s x c := fun j hj => by
        have hx : l[o + j]? = some l[o + j] := List.getElem?_eq_getElem (by omega)
        obtain ⟨c, h1, h2⟩ := hc _ _ hx
        exact ⟨c, h1, fun x hx' => by rw [hx] at hx'; cases hx'; exact h2⟩
      let f : Nat → Value := fun j => (w.cell? ⟨b, p + (o + j), none⟩).getD Go.undef
      have hf : ∀ j, j < i.size → w.cell? (Addr.add ⟨b, p + o, none⟩ j) = some (f j) := fun j hj => by
        obtain ⟨c, h1, _⟩ := hget j hj
        rw [add_at, Nat.add_assoc]; simp only [f, h1]; rfl
      rw [if_pos hagg]
      simp only [Sem.run_bind, hT.run_size, Result.andThen_ok, run_loadCells w _ _ f hf]
      refine ⟨_, rfl, VR.agg' ⟨by simp; omega, fun j x c h1 h2 => ?_⟩⟩
      have hj : j < i.size := by
        have := (List.getElem?_eq_some_iff.1 h2).1
        simpa using this
      simp only [List.getElem?_map, List.getElem?_range hj, Option.map_some, Option.some.injEq] at h2
      subst h2
      obtain ⟨c, e1, e2⟩ := hget j hj
      simp only [f, e1]
      refine e2 x ?_
      rw [List.getElem?_take] at h1
      rw [if_pos hj, List.getElem?_drop] at h1
      exact h1
    · cases h
  · rename_i hagg
    rw [if_neg hagg]
    obtain ⟨c, h1, h2⟩ := hc _ _ h
    exact ⟨c, by simp [h1], h2⟩

theorem ld_ok (hΓ : Γ.Ok P) (hi : Inv H s) {T : Nat} {p v : AV} {c : Value} (h : ldAt Γ T p H = some v) (hp : VR s p c) :
    ∃ c', (Instr.loadAt T c).run P s.w = .ok c' s.w ∧ VR s v c' := by
  unfold ldAt at h
  split at h
  · cases h
  · rename_i i hti
    have hT := hΓ.ty T i hti
    split at h
    · rename_i id off
      split at h
      · rename_i vs hbl
        cases hp with
        | pv _ _ h => cases h
        | ptr _ _ loc hr =>
          obtain ⟨loc', h1, _, cc, Ty, lo, hh, h2, h3, h4, h5⟩ := hi.blk _ _ hbl
          rw [hr] at h1; cases h1
          obtain ⟨c', e1, e2⟩ := loadVar_ok (s := s) hT vs off loc.blk loc.off s.w (fun j x hx => by
            obtain ⟨cv, g1, g2⟩ := h5 j x hx
            exact ⟨cv, by simp [World.cell?, h2, g1], g2⟩) h
          exact ⟨c', by simp [Instr.loadAt, Instr.sureAddr, e1], e2⟩
      · cases h
    · rename_i cells
      cases hp with
      | pv _ _ h => cases h
      | cptr _ b o f hI hc hv =>
        obtain ⟨c', e1, e2⟩ := loadVar_ok (s := s) hT cells 0 b o s.w (fun j x hx => ⟨f j, hc j x hx, .pv _ _ (hv j x hx)⟩) h
        exact ⟨c', by simp only [Nat.add_zero] at e1; simp [Instr.loadAt, Instr.sureAddr, e1], e2⟩
    · cases h

theorem setL_len : ∀ (vs l : List AV) (o : Nat), (setL l o vs).length = l.length
  | [], l, o => rfl
  | v :: r, l, o => by rw [setL, setL_len r]; simp
theorem setL_get : ∀ (vs l : List AV) (o i : Nat), o + vs.length ≤ l.length → (setL l o vs)[i]? = if o ≤ i ∧ i < o + vs.length then vs[i - o]? else l[i]?
  | [], l, o, i, _ => by rw [setL, if_neg (by simp)]
  | v :: r, l, o, i, h => by
    simp only [List.length_cons] at h
    rw [setL, setL_get r (l.set o v) (o + 1) i (by simp; omega)]
    by_cases hi : o + 1 ≤ i ∧ i < o + 1 + r.length
    · rw [if_pos hi, if_pos (by simp; omega)]
      obtain ⟨k, rfl⟩ : ∃ k, i = o + 1 + k := ⟨i - (o + 1), by omega⟩
      rw [show o + 1 + k - o = k + 1 by omega, show o + 1 + k - (o + 1) = k by omega]; simp
    · rw [if_neg hi, List.getElem?_set]
      by_cases ho : o = i
      · subst ho
        rw [if_pos rfl, if_pos (by omega), if_pos (by simp)]; simp
      · rw [if_neg ho, if_neg (by simp; omega)]

/-- Writing some cells of a block. -/
theorem put_cells (hi : Inv H s) {id : Nat} {vs : List AV} (hbl : H.bl id = some (.cells vs)) (hfl : H.floor ≤ id) {loc : Loc} (hr : s.ρ id = some loc) (off : Nat) (xs : List AV) (cs : List Value) (hx : LR s xs cs)
    (hc : xs.all AV.cell = true) (hle : off + xs.length ≤ vs.length) :
    ∃ s', (storeCells ⟨loc.blk, loc.off + off, none⟩ cs).run P s.w = .ok () s'.w ∧ Step H s { H with bl := upd H.bl id (some (.cells (setL vs off xs))) } s' := by
  obtain ⟨loc', h1, hnI, c, Ty, lo, hh, h2, h3, h4, h5⟩ := hi.blk _ _ hbl
  rw [hr] at h1; cases h1
  have hlen := hx.1
  have hin : ∀ j, j < vs.length → ∃ cv, c[loc.off + j]? = some cv := fun j hj => by
    obtain ⟨cv, g, _⟩ := h5 j _ (List.getElem?_eq_getElem hj); exact ⟨cv, g⟩
  have hone : ∀ v ∈ cs, v.oneCell' = true := fun v hv => by
    obtain ⟨j, hj, rfl⟩ := List.getElem_of_mem hv
    obtain ⟨x, e1, e2⟩ := hx.get' (List.getElem?_eq_getElem hj)
    exact e2.one (List.all_eq_true.1 hc x (List.mem_of_getElem? e1))
  have hrun := run_storeCells_cells (P := P) loc.blk (loc.off + off) cs 0 s.w
    (fun j hj => by
      obtain ⟨cv, g⟩ := hin (off + j) (by omega)
      rw [← Nat.add_assoc] at g
      simp [World.cell?, h2, g])
    (fun j hj => by
      obtain ⟨cv, g⟩ := hin (off + j) (by omega)
      have := (Array.getElem?_eq_some_iff.1 g).1
      simp [World.frozen?, h2]; omega)
    hone
  obtain ⟨g1, g2, g3, g4, g5⟩ := setCells_world loc.blk cs (loc.off + off) s.w
  have hfit : loc.off + off + cs.length ≤ c.size := by have := h3.2; omega
  obtain ⟨c', k1, k2, k3⟩ := setCells_block loc.blk Ty (lo, hh) cs (loc.off + off) s.w c h2 hfit
  refine ⟨_, hrun, (step_put hi hbl hfl hr _ g1 g2 g3 g4 g5 fun hv => ?_).1⟩
  refine ⟨c', Ty, lo, hh, k1, by rw [k2, setL_len]; exact h3, by rw [k2]; exact h4, fun j x hj => ?_⟩
  rw [setL_get xs vs off j hle] at hj
  rw [k3]
  split at hj
  · rename_i e
    rw [if_pos (by omega)]
    obtain ⟨cv, e1, e2⟩ := hx.get hj
    exact ⟨cv, by rw [show loc.off + j - (loc.off + off) = j - off by omega]; exact e1, hv _ _ e2⟩
  · rename_i e
    rw [if_neg (by omega)]
    obtain ⟨cv, e1, e2⟩ := h5 j x hj
    exact ⟨cv, e1, hv _ _ e2⟩
end
end Go.Proofs.YtkgghgigjeihjaaGreat.Sim
