/- The operations: append, copy. -/
import Derived.Test.YtkgghgigjeihjaaGreatS4
import Derived.Laws.BitsLemmas
namespace Go.Proofs.YtkgghgigjeihjaaGreat.Sim
set_option linter.unusedVariables false
set_option linter.unusedSimpArgs false
section
variable {P : Program} {Γ : Ctx} {s : CS} {H : AH}

def bytesA (b : List UInt8) : List AV := b.map fun x => .int .u8 x.toNat
/-- The cells of a slice's first n elements (or of a string's first n bytes). -/
def rowA (x : AV) (n es : Nat) (H : AH) : Option (List AV) :=
  match x with
  | .slc id off len es' _ => match H.bl id with
    | some (.cells vs) => if es' = es ∧ n ≤ len ∧ off + n * es ≤ vs.length then some ((vs.drop off).take (n * es)) else none
    | _ => none
  | .lst cells _ _ => if n * es ≤ cells.length then some (cells.take (n * es)) else none
  | .str b => if es = 1 ∧ n ≤ b.length then some (bytesA (b.take n)) else none
  | _ => none
theorem loadCells_lr {l : List AV} {b o : Nat} (w : World) (h : ∀ (j : Nat) (x : AV), l[j]? = some x → ∃ c, w.cell? ⟨b, o + j, none⟩ = some c ∧ VR s x c) :
    ∃ cs, (loadCells ⟨b, o, none⟩ l.length).run P w = .ok cs w ∧ LR s l cs.toList := by
  let f : Nat → Value := fun j => (w.cell? ⟨b, o + j, none⟩).getD Go.undef
  have hf : ∀ j, j < l.length → w.cell? (Addr.add ⟨b, o, none⟩ j) = some (f j) := fun j hj => by
    obtain ⟨c, h1, _⟩ := h j _ (List.getElem?_eq_getElem hj)
    rw [add_at]; simp only [f, h1]; rfl
  refine ⟨_, run_loadCells w _ _ f hf, by simp, fun j x c h1 h2 => ?_⟩
  have hj : j < l.length := (List.getElem?_eq_some_iff.1 h1).1
  simp only [List.getElem?_map, List.getElem?_range hj, Option.map_some, Option.some.injEq] at h2
  subst h2
  obtain ⟨c, e1, e2⟩ := h j x h1
  simp only [f, e1]; exact e2
theorem row_ok (hi : Inv H s) {x : AV} {n es : Nat} {l : List AV} {c : Value} (h : rowA x n es H = some l) (hx : VR s x c) :
    ∃ cs : Array Value, (Builtin.firstCells es n c).run P s.w = .ok cs s.w ∧ LR s l cs.toList ∧ l.length = n * es := by
  unfold rowA at h
  split at h
  · rename_i id off len es' cap
    split at h
    · rename_i vs hbl
      split at h
      · rename_i hc
        cases h
        obtain ⟨loc, o, k, rfl, hr, ho, hl, hcap, hk⟩ := hx.of_slc
        obtain ⟨loc', g1, _, cc, Ty, lo, hh, g2, g3, g4, g5⟩ := hi.blk _ _ hbl
        rw [hr] at g1; cases g1
        have hlen : ((vs.drop off).take (n * es)).length = n * es := by simp; omega
        by_cases hn : n = 0
        · subst hn
          refine ⟨#[], by simp [Builtin.firstCells, loadCells, loadCellsFrom], ?_, hlen⟩
          simp only [Nat.zero_mul, List.take_zero]; exact LR.nil
        · have ho' : o = loc.off + off := ho.resolve_left (by omega)
          subst ho'
          have := loadCells_lr (P := P) (s := s) (l := (vs.drop off).take (n * es)) (b := loc.blk) (o := loc.off + off) s.w (fun j x hx => by
            have hx' : vs[off + j]? = some x := by
              rw [List.getElem?_take] at hx
              split at hx
              · rwa [List.getElem?_drop] at hx
              · cases hx
            obtain ⟨cv, e1, e2⟩ := g5 _ x hx'
            exact ⟨cv, by rw [Nat.add_assoc]; simp [World.cell?, g2, e1], e2⟩)
          obtain ⟨cs, e1, e2⟩ := this
          rw [hlen] at e1
          exact ⟨cs, by simp only [Builtin.firstCells]; exact e1, e2, hlen⟩
      · cases h
    · cases h
  · rename_i cells m ex
    split at h
    · rename_i hc
      cases h
      have hlen : (cells.take (n * es)).length = n * es := by simp; omega
      rcases hx.of_lst with ⟨rfl, rfl, rfl⟩ | ⟨b, o, k, f, rfl, hI, _, _, h1, h2⟩
      · have h0 : n * es = 0 := by simpa using hc
        refine ⟨#[], rfl, by rw [h0]; exact LR.nil, hlen⟩
      · have := loadCells_lr (P := P) (s := s) (l := cells.take (n * es)) (b := b) (o := o) s.w (fun j x hx => by
          have hx' : cells[j]? = some x := by
            rw [List.getElem?_take] at hx
            split at hx
            · exact hx
            · cases hx
          exact ⟨f j, h1 j x hx', .pv _ _ (h2 j x hx')⟩)
        obtain ⟨cs, e1, e2⟩ := this
        rw [hlen] at e1
        exact ⟨cs, by simp only [Builtin.firstCells]; exact e1, e2, hlen⟩
    · cases h
  · rename_i b
    split at h
    · rename_i hc
      cases h
      obtain ⟨bs, rfl, rfl⟩ := hx.of_str
      obtain ⟨rfl, hc⟩ := hc
      refine ⟨_, rfl, ?_, by have : n ≤ bs.size := hc; simp [bytesA]; omega⟩
      have e : ((bs.extract 0 n).data.map fun b => Value.int .u8 b.toNat).toList = (bs.data.toList.take n).map fun b => Value.int .u8 b.toNat := by simp
      rw [e]
      refine ⟨by simp [bytesA], fun i x c h1 h2 => ?_⟩
      simp only [bytesA, List.getElem?_map, Option.map_eq_some_iff] at h1 h2
      obtain ⟨u, g1, rfl⟩ := h1
      obtain ⟨u', g2, rfl⟩ := h2
      rw [g1] at g2; cases g2
      exact .pv _ _ (.int _ _)
    · cases h
  · cases h

/-- How many things are appended: a slice's, a string's, or (where the second operand is a number) zeros. -/
def cntA (Γ : Ctx) (xT : Option Nat) (x : AV) : Option (Nat × Bool) :=
  match xT with
  | none => none
  | some t => match Γ.ty t with
    | none => none
    | some i => match i.desc, x with
      | .int _, .int _ n => if 0 ≤ n ∧ n < 4611686018427387904 then some (n.toNat, true) else none
      | .slice _, .slc _ _ n _ _ => some (n, false)
      | .slice _, .lst _ n _ => some (n, false)
      | .string, .str b => some (b.length, false)
      | _, _ => none

def newCells (Γ : Ctx) (j : TI) (x : AV) (n : Nat) (z : Bool) (H : AH) : Option (List AV) :=
  if z then some (zerosA j.zero.cells (n * j.size)) else rowA x n j.size H

def AH.kill (H : AH) (id : Nat) : AH := { H with bl := upd H.bl id none }

def appendA (Γ : Ctx) (ats : List Nat) (x y : AV) (H : AH) : Option (AV × AH) :=
  match ats[0]? with
  | none => none
  | some T => match Γ.ty T with
    | none => none
    | some i => match i.desc with
      | .slice e => match Γ.ty e, cntA Γ ats[1]? y with
        | some j, some (n, z) =>
          if 0 < j.size ∧ 0 < j.bytes ∧ j.zero.cells.length = j.size then match newCells Γ j y n z H with
          | none => none
          | some new => match x with
            | .slc id off len es cap => match H.bl id with
              | some (.cells vs) =>
                if es = j.size ∧ (len + n) * j.bytes ≤ 140737488355328 ∧ off + len * es ≤ vs.length then
                  match cap with
                  | some c => if len + n ≤ c then (if off + len * es = vs.length ∧ H.floor ≤ id ∧ new.all AV.cell = true then some (.slc H.nxt 0 (len + n) es (some c), H.move id (.cells (vs.drop off ++ new))) else none)
                    else some (.slc H.nxt 0 (len + n) es none, H.new (.cells ((vs.drop off).take (len * es) ++ new)))
                  | none => if off + len * es = vs.length ∧ H.floor ≤ id ∧ new.all AV.cell = true then some (.slc H.nxt 0 (len + n) es none, H.move id (.cells (vs.drop off ++ new))) else none
                else none
              | _ => none
            | .lst cells len ex =>
              if n = 0 then (if len * j.bytes ≤ 140737488355328 then some (x, H) else none)
              else if ex = true ∧ (len + n) * j.bytes ≤ 140737488355328 ∧ len * j.size ≤ cells.length then some (.slc H.nxt 0 (len + n) j.size none, H.new (.cells (cells.take (len * j.size) ++ new))) else none
            | _ => none
          else none
        | _, _ => none
      | _ => none

theorem cnt_ok (hΓ : Γ.Ok P) {xT : Option Nat} {y : AV} {d : Value} {n : Nat} {z : Bool} (h : cntA Γ xT y = some (n, z)) (hy : VR s y d) :
    ∃ xt D, xT = some xt ∧ P.underlying xt = some D ∧ ((z = true ∧ ∃ k' k m, D = .int k' ∧ d = .int k m ∧ 0 ≤ m ∧ m < 4611686018427387904 ∧ n = m.toNat) ∨
      (z = false ∧ ((∃ e, D = .slice e) ∨ D = .string) ∧ ∀ w, (Builtin.lenOf d).run P w = .ok n w)) := by
  unfold cntA at h
  split at h
  · cases h
  · rename_i xt
    split at h
    · cases h
    · rename_i i hti
      refine ⟨xt, i.desc, rfl, (hΓ.ty _ _ hti).und, ?_⟩
      split at h
      · rename_i k' k m hd
        split at h
        · rename_i hc
          cases h
          exact .inl ⟨rfl, k', k, m, hd, hy.of_int, hc.1, hc.2, rfl⟩
        · cases h
      · rename_i e id off m es cap hd
        cases h
        obtain ⟨loc, o, k, rfl, _⟩ := hy.of_slc
        exact .inr ⟨rfl, .inl ⟨e, hd⟩, fun w => rfl⟩
      · rename_i e cells m ex hd
        cases h
        refine .inr ⟨rfl, .inl ⟨e, hd⟩, fun w => ?_⟩
        rcases hy.of_lst with ⟨rfl, rfl, rfl⟩ | ⟨b, o, k, f, rfl, _⟩
        · rfl
        · rfl
      · rename_i b hd
        cases h
        obtain ⟨bs, rfl, rfl⟩ := hy.of_str
        exact .inr ⟨rfl, .inr hd, fun w => rfl⟩
      · cases h

/-- What is appended, as the model has it. -/
def appCells (e : TypeId) (size n : Nat) (z : Bool) (d : Value) : Sem (Array Value) :=
  if !z then Builtin.firstCells size n d
  else if n * size = 0 then pure #[]
  else do pure (Builtin.zeroCells (← zeroValue e).cells n)
def appRest (e : TypeId) (size : Nat) (bytes : Nat) (base : Option Addr) (sLen sCap n : Nat) (z : Bool) (c d : Value) : Sem Value :=
  if sLen + n ≤ sCap then do
    let new ← appCells e size n z d
    if let some a := base then storeCells (a.add (sLen * size)) new.toList
    pure (.slice base (sLen + n) sCap)
  else do
    let newCap ← choose (.appendCap (sLen + n) sCap e)
    askRoom (newCap * bytes)
    let old ← Builtin.firstCells size sLen c
    let new ← appCells e size n z d
    let rest := Builtin.zeroCells (← zeroValue e).cells (newCap - (sLen + n))
    pure (.slice (some (← newRow e (old ++ new ++ rest))) (sLen + n) newCap)

theorem append_run (hΓ : Γ.Ok P) {ats : Array TypeId} {T e : TypeId} {i j : TI} (h0 : ats[0]? = some T) (hT : TyOk P T i) (hd : i.desc = .slice e) (hJ : TyOk P e j) {y : AV} {d : Value} {n : Nat} {z : Bool} (hc : cntA Γ ats[1]? y = some (n, z)) (hy : VR s y d)
    (base : Option Addr) (sLen sCap : Nat) (hbytes : 0 < j.bytes) (hfit : (sLen + n) * j.bytes ≤ 140737488355328) (ty : TypeId) (w : World) :
    (Builtin.append_ ats ty #[.slice base sLen sCap, d]).run P w = (appRest e j.size j.bytes base sLen sCap n z (.slice base sLen sCap) d).run P w := by
  obtain ⟨xt, D, h1, hu, hD⟩ := cnt_ok (P := P) hΓ hc hy
  obtain ⟨inf, hinf, hib⟩ := hJ.run_info w
  have a1 : (#[Value.slice base sLen sCap, d] : Array Value)[0]? = some (.slice base sLen sCap) := rfl
  have a2 : (#[Value.slice base sLen sCap, d] : Array Value)[1]? = some d := rfl
  have hux : ∀ w, (underlying xt).run P w = .ok D w := fun w => by simp [underlying, hu]
  have hn1 : n * j.bytes ≤ 140737488355328 := Nat.le_trans (Nat.mul_le_mul_right _ (by omega)) hfit
  have hnn : sLen + n ≤ 140737488355328 := Nat.le_trans (Nat.le_mul_of_pos_right _ hbytes) hfit
  have hgrow : ¬ (sLen + n ≤ sCap) → ¬ (Builtin.nextslicecap (sLen + n) sCap * inf.bytes > 2 ^ 48) := fun hn => by
    rw [hib]
    have := growslice_fits (need := sLen + n) (old := sCap) (by omega) hfit
    simp only [Nat.reducePow, gt_iff_lt]; omega
  have hmax : ¬ (((sLen + n : Nat) : Int) > IntKind.i64.max ∧ (z = true ∨ inf.bytes = 0)) := fun hh => by
    have : IntKind.i64.max = 9223372036854775807 := by decide
    rw [this] at hh; omega
  rcases hD with ⟨rfl, k', k, m, rfl, rfl, m0, m1, rfl⟩ | ⟨rfl, hDD, hlen⟩
  · have hw : IntKind.i64.wrap m = m := by rw [IntKind.wrap_i64]; omega
    have hml : ¬ (m < 0) := by omega
    have hmb : ¬ (m * (inf.bytes : Int) > 2 ^ 48) := by
      rw [hib]
      have e1 : m * (j.bytes : Int) = ((m.toNat * j.bytes : Nat) : Int) := by rw [Int.natCast_mul]; congr 1; omega
      rw [e1]; omega
    simp only [Builtin.append_, h0, a1, a2, h1, Sem.run_bind, hT.run_und, hd, Result.andThen_ok, hJ.run_size, hux, Sem.run_pure, if_true, asInt, asIntOf, hw, if_neg hml, hinf, if_neg hmb]
    simp only [appRest, appCells]
    by_cases hle : sLen + m.toNat ≤ sCap
    · rw [if_pos hle, if_pos hle]; cases base <;> rfl
    · have hm2 : ¬ (((sLen + m.toNat : Nat) : Int) > IntKind.i64.max ∧ (True ∨ inf.bytes = 0)) := fun hh => hmax ⟨hh.1, .inl rfl⟩
      rw [if_neg hle, if_neg hle]
      simp only [Sem.run_bind, hinf, Result.andThen_ok, if_neg hm2, if_neg (hgrow hle)]
      congr 1
      funext newCap w'
      obtain ⟨inf', hinf', hib'⟩ := hJ.run_info w'
      simp only [hinf', Result.andThen_ok, hib', run_askRoom]
  · rcases hDD with ⟨e', rfl⟩ | rfl
    all_goals
      simp only [Builtin.append_, h0, a1, a2, h1, Sem.run_bind, hT.run_und, hd, Result.andThen_ok, hJ.run_size, hux, Sem.run_pure, Bool.false_eq_true, if_false, hlen]
      simp only [appRest, appCells]
      by_cases hle : sLen + n ≤ sCap
      · rw [if_pos hle, if_pos hle]; cases base <;> rfl
      · have hm2 : ¬ (((sLen + n : Nat) : Int) > IntKind.i64.max ∧ (False ∨ inf.bytes = 0)) := fun hh => hmax ⟨hh.1, hh.2.elim False.elim .inr⟩
        rw [if_neg hle, if_neg hle]
        simp only [Sem.run_bind, hinf, Result.andThen_ok, if_neg hm2, if_neg (hgrow hle)]
        congr 1
        funext newCap w'
        obtain ⟨inf', hinf', hib'⟩ := hJ.run_info w'
        simp only [hinf', Result.andThen_ok, hib', run_askRoom]
end
end Go.Proofs.YtkgghgigjeihjaaGreat.Sim
