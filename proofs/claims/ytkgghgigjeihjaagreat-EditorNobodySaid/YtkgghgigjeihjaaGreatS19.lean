/- Calls. -/
import Derived.Test.YtkgghgigjeihjaaGreatS18
namespace Go.Proofs.YtkgghgigjeihjaaGreat.Sim
set_option linter.unusedVariables false
set_option linter.unusedSimpArgs false
section
variable {P : Program} {Γ : Ctx} {call : CallF}

theorem evOps_nodef {ops : Array Oper} : ∀ (l : List Oper) (st st' : ASt), (l.all fun o => notDefer o.op) = true → evOps Γ call ops l st = some st' → st'.d = st.d
  | [], st, st', _, h => by cases h; rfl
  | o :: r, st, st', hn, h => by
    simp only [List.all_cons, Bool.and_eq_true] at hn
    rw [evOps] at h
    split at h
    · split at h
      · rename_i g hg
        unfold evDefer at hg
        split at hg
        · rename_i hop; rw [hop] at hn; cases hn.1
        · cases hg
      · split at h
        · have := evOps_nodef r _ _ hn.2 h; exact this
        · cases h
    · have := evOps_nodef r _ _ hn.2 h; exact this
theorem evC_nodef : ∀ (n : Nat) (c : Code) (st st' : ASt) (e : AX), noDefer c = true → evC Γ call n c st = some (e, st') → st'.d = st.d := by
  intro n
  induction n with
  | zero => intro c st st' e _ h; cases h
  | succ n ih =>
    intro c st st' e hn h
    cases c with
    | skip => simp only [evC] at h; cases h; rfl
    | label l => simp only [evC] at h; cases h; rfl
    | ret => simp only [evC] at h; cases h; rfl
    | exit id => simp only [evC] at h; cases h; rfl
    | region id ops d =>
      cases d with
      | false =>
        simp only [evC, Option.map_eq_some_iff] at h
        obtain ⟨s, h1, h⟩ := h; cases h
        exact evOps_nodef _ _ _ hn h1
      | true =>
        simp only [evC, Option.map_eq_some_iff] at h
        obtain ⟨s, h1, h⟩ := h; cases h
        unfold evDraw at h1
        simp only at h1
        split at h1
        · split at h1
          · split at h1
            · cases h1; rfl
            · cases h1
          · cases h1
        · cases h1
    | seq a b =>
      simp only [noDefer, Bool.and_eq_true] at hn
      simp only [evC] at h
      split at h
      · rename_i h1; rw [ih _ _ _ _ hn.2 h, ih _ _ _ _ hn.1 h1]
      · exact ih _ _ _ _ hn.1 h
    | cond x a b =>
      simp only [noDefer, Bool.and_eq_true] at hn
      simp only [evC] at h
      split at h
      · exact ih _ _ _ _ hn.1 h
      · exact ih _ _ _ _ hn.2 h
      · cases h
    | block id b =>
      simp only [noDefer] at hn
      simp only [evC] at h
      split at h
      · rename_i h1; cases h; exact ih _ _ _ _ hn h1
      · exact ih _ _ _ _ hn h
    | loop b =>
      simp only [noDefer] at hn
      simp only [evC] at h
      split at h
      · rename_i h1; rw [ih _ _ _ _ (by simpa [noDefer] using hn) h, ih _ _ _ _ hn h1]
      · exact ih _ _ _ _ hn h
    | scope b => simp only [noDefer] at hn; simp only [evC] at h; exact ih _ _ _ _ hn h
    | goto l => simp only [evC] at h; cases h
    | refuse w => simp only [evC] at h; cases h
    | rangeFunc f p a b => simp only [evC] at h; cases h

/-- The results' cells, read. -/
theorem res_ok (hΓ : Γ.Ok P) {s : CS} {H : AH} (hi : Inv H s) {t : List AV} {a : Act} (ht : LR s t a.tmps.toList) : ∀ (rs : List ResultVar) (l : List AV), resA Γ t H rs = some l →
    ∃ cs : List Value, (rs.mapM (m := Sem) fun
      | .tmp t => pure (a.tmps.getD t undef)
      | .cell q T => do loadVar T (← asAddr (a.tmps.getD q undef))).run P s.w = .ok cs s.w ∧ LR s l cs
  | [], l, h => by cases h; exact ⟨[], rfl, LR.nil⟩
  | .tmp k :: r, l, h => by
    simp only [resA, Option.map_eq_some_iff] at h
    obtain ⟨l', h1, rfl⟩ := h
    obtain ⟨cs, e1, e2⟩ := res_ok hΓ hi ht r l' h1
    have hv : VR s (t.getD k (.tup [])) (a.tmps.getD k undef) := opv_vr (a := a) (x := .tmp k) ht rfl
    refine ⟨_ :: cs, ?_, LR.cons hv e2⟩
    simp only [List.mapM_cons, Sem.run_bind, Sem.run_pure, Result.andThen_ok]
    rw [e1]; rfl
  | .cell q T :: r, l, h => by
    simp only [resA] at h
    split at h
    · rename_i v l' h1 h2
      cases h
      obtain ⟨cs, e1, e2⟩ := res_ok hΓ hi ht r l' h2
      have hp : VR s (t.getD q (.tup [])) (a.tmps.getD q undef) := opv_vr (a := a) (x := .tmp q) ht rfl
      obtain ⟨c, g1, g2⟩ := ld_ok (P := P) hΓ hi h1 hp
      have haddr : (asAddr (a.tmps.getD q undef) >>= fun x => loadVar T x).run P s.w = .ok c s.w := by
        have hc : ∃ ad, a.tmps.getD q undef = .pointer (some ad) := by
          unfold ldAt at h1
          split at h1
          · cases h1
          · split at h1
            · rename_i he
              rw [he] at hp
              obtain ⟨loc, e, _⟩ := hp.of_ptr
              exact ⟨_, e⟩
            · rename_i he
              rw [he] at hp
              obtain ⟨b, o, f, e, _⟩ := hp.of_cptr
              exact ⟨_, e⟩
            · cases h1
        obtain ⟨ad, hc⟩ := hc
        rw [hc] at g1 ⊢
        simpa [Instr.loadAt, Instr.sureAddr, asAddr] using g1
      refine ⟨c :: cs, ?_, LR.cons g2 e2⟩
      rw [List.mapM_cons]
      simp only [Sem.run_bind] at haddr ⊢
      rw [haddr]
      simp only [Result.andThen_ok]
      rw [e1]; rfl
    · cases h
def tupA : List AV → AV
  | [v] => v
  | l => .tup l
theorem results_ok (hΓ : Γ.Ok P) {s : CS} {H : AH} (hi : Inv H s) {t : List AV} {a : Act} (ht : LR s t a.tmps.toList) (F : Func) (l : List AV) (h : resA Γ t H F.results.toList = some l) :
    ∃ c, (results F a.tmps).run P s.w = .ok c s.w ∧ VR s (tupA l) c := by
  obtain ⟨cs, e1, e2⟩ := res_ok hΓ hi ht _ _ h
  have hm : (F.results.mapM (m := Sem) fun
      | .tmp t => pure (a.tmps.getD t undef)
      | .cell q T => do loadVar T (← asAddr (a.tmps.getD q undef))).run P s.w = .ok cs.toArray s.w := by
    rw [← Array.toArray_toList (xs := F.results), List.mapM_toArray, Sem.run_map]
    rw [e1]; rfl
  refine ⟨if h : cs.toArray.size = 1 then cs.toArray[0] else .tuple cs.toArray, ?_, ?_⟩
  · unfold results
    simp only [Sem.run_bind]
    exact congrArg (fun r : Result (Array Value) => r.andThen fun vs w' => (pure (if h : vs.size = 1 then vs[0] else .tuple vs) : Sem Value).run P w') hm
  · match l, cs, e2 with
    | [], cs, e2 =>
      have := e2.of_nil
      subst this
      exact VR.tup' LR.nil
    | [v], cs, e2 =>
      obtain ⟨c, cs', rfl, h1, h2⟩ := e2.of_cons
      have := h2.of_nil
      subst this
      exact h1
    | v :: u :: r, cs, e2 =>
      have hl := e2.1
      have : cs.toArray.size ≠ 1 := by simp at hl ⊢; omega
      rw [dif_neg this]
      exact VR.tup' (by simpa using e2)

/-- The deferred calls. -/
theorem leaves_ok (hΓ : Γ.Ok P) (hc : CallOK P Γ call) (hm : CallMono call) (F : Func) (tmps : Array Value) (R : Ending → World → Prop) : ∀ (l : List (AV × List AV)) (H H' : AH), evDefers Γ call l H = some H' →
    ∀ (s : CS) (q : List Deferred), Inv H s → DRs s l q → Fresh s H.nxt H'.nxt → Dom s (H.nxt + Zb) → (∀ s', Step H s H' s' → ∃ v, (results F tmps).run P s'.w = .ok v s'.w ∧ R (.returned v) s'.w) → Leaves P F tmps R q .returning s.w
  | [], H, H', h, s, q, hi, hd, hf, hz, hR => by
    cases h
    cases q with
    | nil => exact hR s (Step.refl hi)
    | cons D q => exact hd.elim
  | (g, l) :: r, H, H', h, s, q, hi, hd, hf, hz, hR => by
    cases q with
    | nil => exact hd.elim
    | cons D q =>
      obtain ⟨⟨g', a, b, l', cl, e, a', b', h1, h2, h3, h4, rfl⟩, hd⟩ := hd
      cases e
      rw [evDefers] at h
      split at h
      · rename_i k l2 hk
        split at h
        · cases h
        · rename_i hcond
          split at h
          · rename_i v H1 hcall
            unfold calleeA at hk
            split at hk
            · rename_i k' a1 b1 heq
              cases heq; cases hk
              simp only [Bool.or_eq_true, Bool.not_eq_true', not_or, Bool.not_eq_true, Bool.not_eq_false] at hcond
              have hp : Γ.prim k = none := by
                have := hcond.1
                cases hpk : Γ.prim k with
                | none => rfl
                | some p => rw [hpk] at this; cases this
              have hmono := evDefers_mono hm r _ _ h
              have hmono1 := hm _ _ _ _ _ hcall
              have hf1 : Fresh s H.nxt H1.nxt := hf.sub (Nat.le_refl _) hmono
              have hlr : LR s (a ++ l ++ b) (a' ++ cl ++ b').toList := by
                rw [Array.toList_append, Array.toList_append]
                exact (h2.append h4).append h3
              refine leaves_cons (by simp) (f := k) (args := a' ++ cl ++ b') ?_ ?_
              · simp only [invoke]
                exact run_callFunc (hc.able _ _ _ _ hcall) _ _
              · refine (hc.defers _ _ _ _ _ hp hcond.2 hcall s _ .returning hi hf1 hz hlr).mono fun e u' w' he => ?_
                obtain ⟨c, s1, rfl, rfl, rfl, st1, hv⟩ := he
                exact leaves_ok hΓ hc hm F tmps R r H1 H' h s1 q st1.inv (hd.mono fun v c => st1.vr hi hf1) (st1.fresh hf) (st1.dom hz) fun s' st' => hR s' (st1.trans st')
            · cases hk
          · cases h
      · cases h

theorem frzL_spec {f : AV → Option AV} : ∀ {l l' : List AV}, frzC.frzL f l = some l' → l.length = l'.length ∧ ∀ (i : Nat) (x y : AV), l[i]? = some x → l'[i]? = some y → f x = some y
  | [], l', h => by cases h; exact ⟨rfl, fun i x y h => by simp at h⟩
  | x :: r, l', h => by
    rw [frzC.frzL] at h
    split at h
    · rename_i y q h1 h2
      cases h
      obtain ⟨e1, e2⟩ := frzL_spec h2
      refine ⟨by simp [e1], fun i u v h3 h4 => ?_⟩
      cases i with
      | zero => simp at h3 h4; subst h3; subst h4; exact h1
      | succ i => simp at h3 h4; exact e2 i u v h3 h4
    · cases h

/-- The memory behind a quiet call: all that it made never changes any more. -/
def CS.quiet (s s1 : CS) : CS := { w := s1.w, ρ := s.ρ, I := fun b => s.I b ∨ (s.w.heap.size ≤ b ∧ b < s1.w.heap.size) }

theorem frzC_ok {H1 : AH} {s s1 : CS} {n0 : Nat} (hi1 : Inv H1 s1) (hI : ∀ b, s1.I b → (s.quiet s1).I b) (hnew : ∀ id loc B, n0 ≤ id → H1.bl id = some B → s1.ρ id = some loc → s.w.heap.size ≤ loc.blk) :
    ∀ (n : Nat) (x y : AV) (c : Value), frzC n0 H1.bl n x = some y → VR s1 x c → PV (s.quiet s1) y c := by
  have mono : ∀ v c, PV s1 v c → PV (s.quiet s1) v c := fun v c h => h.mono hI fun b _ => rfl
  intro n
  induction n with
  | zero =>
    intro x y c h hx
    cases x <;> (try simp only [frzC] at h) <;> first
      | (cases h; done)
      | (cases h; cases hx with | pv _ _ hp => exact mono _ _ hp)
      | (rename_i a; cases a <;> (try simp only [frzC] at h) <;> first
          | (cases h; done)
          | (cases h; cases hx with | pv _ _ hp => exact mono _ _ hp))
      | (rename_i g a b
         cases a <;> cases b <;> (try simp only [frzC] at h) <;> first
          | (cases h; done)
          | (cases h
             obtain ⟨a', b', rfl, h1, h2⟩ := hx.of_fn
             have e1 : a' = #[] := by have := h1.of_nil; simpa using this
             have e2 : b' = #[] := by have := h2.of_nil; simpa using this
             subst e1; subst e2; exact .fn0 g))
  | succ n ih =>
    intro x y c h hx
    cases x <;> (try simp only [frzC] at h) <;> first
      | (cases h; done)
      | (cases h; cases hx with | pv _ _ hp => exact mono _ _ hp)
      | (rename_i a; cases a <;> (try simp only [frzC] at h) <;> first
          | (cases h; done)
          | (cases h; cases hx with | pv _ _ hp => exact mono _ _ hp))
      | (rename_i g a b
         cases a <;> cases b <;> (try simp only [frzC] at h) <;> first
          | (cases h; done)
          | (cases h
             obtain ⟨a', b', rfl, h1, h2⟩ := hx.of_fn
             have e1 : a' = #[] := by have := h1.of_nil; simpa using this
             have e2 : b' = #[] := by have := h2.of_nil; simpa using this
             subst e1; subst e2; exact .fn0 g))
      | skip
    rename_i id off len es cap
    split at h
    · rename_i vs hbl
      split at h
      · rename_i hc
        simp only [Option.map_eq_some_iff] at h
        obtain ⟨l, h1, rfl⟩ := h
        obtain ⟨e1, e2⟩ := frzL_spec h1
        obtain ⟨loc, o, k, rfl, hr, ho, hl, hcap, hk⟩ := hx.of_slc
        obtain ⟨loc', g1, _, cc, Ty, lo, hh, g2, g3, g4, g5⟩ := hi1.blk _ _ hbl
        rw [hr] at g1; cases g1
        have hcell : ∀ (i : Nat) (y : AV), l[i]? = some y → ∃ x cv, ((vs.drop off).take (len * es))[i]? = some x ∧ s1.w.cell? ⟨loc.blk, o + i, none⟩ = some cv ∧ VR s1 x cv := fun i y hy => by
          have hil : i < ((vs.drop off).take (len * es)).length := by rw [e1]; exact (List.getElem?_eq_some_iff.1 hy).1
          have hx' := List.getElem?_eq_getElem hil
          have hlt : i < len * es := by simp at hil; omega
          have ho' : o = loc.off + off := ho.resolve_left (by rintro rfl; have : len = 0 := by omega
                                                              subst this; simp at hlt)
          have hvs : vs[off + i]? = some ((vs.drop off).take (len * es))[i] := by
            rw [List.getElem?_take, if_pos hlt, List.getElem?_drop] at hx'
            exact hx'
          obtain ⟨cv, f1, f2⟩ := g5 _ _ hvs
          refine ⟨_, cv, hx', ?_, f2⟩
          rw [ho', Nat.add_assoc]
          simp [World.cell?, g2, f1]
        refine .lst l len _ loc.blk o k (fun i => (s1.w.cell? ⟨loc.blk, o + i, none⟩).getD undef) ?_ hl ?_ (fun i y hy => ?_) (fun i y hy => ?_)
        · exact .inr ⟨hnew _ _ _ hc.1 hbl hr, hi1.rlt _ _ hr⟩
        · intro he
          exact hk len (by simpa using he)
        · obtain ⟨x, cv, f1, f2, f3⟩ := hcell i y hy
          show s1.w.cell? _ = _
          rw [f2]; rfl
        · obtain ⟨x, cv, f1, f2, f3⟩ := hcell i y hy
          simp only [f2, Option.getD_some]
          exact ih x y cv (e2 i x y f1 hy) f3
      · cases h
    · cases h

theorem frz_ok {H1 : AH} {s s1 : CS} {n0 : Nat} (hi1 : Inv H1 s1) (hI : ∀ b, s1.I b → (s.quiet s1).I b) (hnew : ∀ id loc B, n0 ≤ id → H1.bl id = some B → s1.ρ id = some loc → s.w.heap.size ≤ loc.blk) (hρ : ∀ id, id < n0 → s1.ρ id = s.ρ id) :
    ∀ (n : Nat) (x y : AV) (c : Value), frz n0 H1.bl n x = some y → VR s1 x c → VR (s.quiet s1) y c := by
  have mono : ∀ v c, PV s1 v c → PV (s.quiet s1) v c := fun v c h => h.mono hI fun b _ => rfl
  intro n
  induction n with
  | zero =>
    intro x y c h hx
    cases x with
    | bool b => simp only [frz] at h; cases h; cases hx with | pv _ _ hp => exact .pv _ _ (mono _ _ hp)
    | int k n => simp only [frz] at h; cases h; cases hx with | pv _ _ hp => exact .pv _ _ (mono _ _ hp)
    | str l => simp only [frz] at h; cases h; cases hx with | pv _ _ hp => exact .pv _ _ (mono _ _ hp)
    | nilFn => simp only [frz] at h; cases h; cases hx with | pv _ _ hp => exact .pv _ _ (mono _ _ hp)
    | lst l k e => simp only [frz] at h; cases h; cases hx with | pv _ _ hp => exact .pv _ _ (mono _ _ hp)
    | nils => simp only [frz] at h; cases h; cases hx with | pv _ _ hp => exact .pv _ _ (mono _ _ hp)
    | ptr a =>
      cases a with
      | none => simp only [frz] at h; cases h; cases hx with | pv _ _ hp => exact .pv _ _ (mono _ _ hp)
      | some a =>
        obtain ⟨id, off⟩ := a
        simp only [frz] at h
        split at h
        · rename_i hlt
          cases h
          obtain ⟨loc, rfl, hr⟩ := hx.of_ptr
          exact .ptr id off loc (by rw [hρ id hlt] at hr; exact hr)
        · cases h
    | map a =>
      cases a with
      | none => simp only [frz] at h; cases h; cases hx with | pv _ _ hp => exact .pv _ _ (mono _ _ hp)
      | some id =>
        simp only [frz] at h
        split at h
        · rename_i hlt
          cases h
          obtain ⟨loc, rfl, hr⟩ := hx.of_map
          exact .map id loc (by rw [hρ id hlt] at hr; exact hr)
        · cases h
    | cptr l =>
      simp only [frz] at h
      cases h
      obtain ⟨b, o, f, rfl, h1, h2, h3⟩ := hx.of_cptr
      exact .cptr l b o f (hI _ h1) h2 fun i x hx => mono _ _ (h3 i x hx)
    | _ => simp only [frz] at h; cases h
  | succ n ih =>
    intro x y c h hx
    have list : ∀ (l l' : List AV) (cs : List Value), frzC.frzL (frz n0 H1.bl n) l = some l' → LR s1 l cs → LR (s.quiet s1) l' cs := fun l l' cs h1 h2 => by
      obtain ⟨e1, e2⟩ := frzL_spec h1
      refine ⟨by rw [← e1]; exact h2.1, fun i y c hy hc => ?_⟩
      have hil : i < l.length := by rw [e1]; exact (List.getElem?_eq_some_iff.1 hy).1
      have hx' := List.getElem?_eq_getElem hil
      exact ih _ y c (e2 i _ y hx' hy) (h2.2 i _ c hx' hc)
    cases x with
    | bool b => simp only [frz] at h; cases h; cases hx with | pv _ _ hp => exact .pv _ _ (mono _ _ hp)
    | int k n => simp only [frz] at h; cases h; cases hx with | pv _ _ hp => exact .pv _ _ (mono _ _ hp)
    | str l => simp only [frz] at h; cases h; cases hx with | pv _ _ hp => exact .pv _ _ (mono _ _ hp)
    | nilFn => simp only [frz] at h; cases h; cases hx with | pv _ _ hp => exact .pv _ _ (mono _ _ hp)
    | lst l k e => simp only [frz] at h; cases h; cases hx with | pv _ _ hp => exact .pv _ _ (mono _ _ hp)
    | nils => simp only [frz] at h; cases h; cases hx with | pv _ _ hp => exact .pv _ _ (mono _ _ hp)
    | ptr a =>
      cases a with
      | none => simp only [frz] at h; cases h; cases hx with | pv _ _ hp => exact .pv _ _ (mono _ _ hp)
      | some a =>
        obtain ⟨id, off⟩ := a
        simp only [frz] at h
        split at h
        · rename_i hlt
          cases h
          obtain ⟨loc, rfl, hr⟩ := hx.of_ptr
          exact .ptr id off loc (by rw [hρ id hlt] at hr; exact hr)
        · cases h
    | map a =>
      cases a with
      | none => simp only [frz] at h; cases h; cases hx with | pv _ _ hp => exact .pv _ _ (mono _ _ hp)
      | some id =>
        simp only [frz] at h
        split at h
        · rename_i hlt
          cases h
          obtain ⟨loc, rfl, hr⟩ := hx.of_map
          exact .map id loc (by rw [hρ id hlt] at hr; exact hr)
        · cases h
    | cptr l =>
      simp only [frz] at h
      cases h
      obtain ⟨b, o, f, rfl, h1, h2, h3⟩ := hx.of_cptr
      exact .cptr l b o f (hI _ h1) h2 fun i x hx => mono _ _ (h3 i x hx)
    | slc id off len es cap =>
      rw [frz] at h
      split at h
      · rename_i hlt
        cases h
        obtain ⟨loc, o, k, rfl, hr, ho, hl, hcap, hk⟩ := hx.of_slc
        exact .slc id off len es cap loc o k (by rw [hρ id hlt] at hr; exact hr) ho hl hcap hk
      · exact .pv _ _ (frzC_ok hi1 hI hnew _ _ _ _ h hx)
    | fn g a b =>
      rw [frz] at h
      split at h
      · rename_i a' b' h1 h2
        cases h
        obtain ⟨ca, cb, rfl, g1, g2⟩ := hx.of_fn
        have l1 := list _ _ _ h1 g1
        have l2 := list _ _ _ h2 g2
        exact .fn g a' b' ca cb (by simpa using l1.1) (by simpa using l2.1) (fun i x c e1 e2 => l1.2 i x c e1 (by simpa using e2)) (fun i x c e1 e2 => l2.2 i x c e1 (by simpa using e2))
      · cases h
    | agg l =>
      simp only [frz, Option.map_eq_some_iff] at h
      obtain ⟨l', h1, rfl⟩ := h
      obtain ⟨cs, rfl, g1⟩ := hx.of_agg
      exact VR.agg' (list _ _ _ h1 g1)
    | tup l =>
      simp only [frz, Option.map_eq_some_iff] at h
      obtain ⟨l', h1, rfl⟩ := h
      obtain ⟨cs, rfl, g1⟩ := hx.of_tup
      exact VR.tup' (list _ _ _ h1 g1)
    | nnl l k e => simp only [frz] at h; cases h

/-- The step of a quiet call. -/
theorem quiet_ok {H H1 : AH} {s s1 : CS} (hi : Inv H s) (hz : Dom s (H.nxt + Zb)) (st : Step ⟨H.nxt + Zb, H.nxt + Zb, H.bl⟩ s H1 s1) : Step H s H (s.quiet s1) ∧ (∀ (n : Nat) (x y : AV) (c : Value), frz (H.nxt + Zb) H1.bl n x = some y → VR s1 x c → VR (s.quiet s1) y c) := by
  have hnw : ∀ b, ¬ Wr ⟨H.nxt + Zb, H.nxt + Zb, H.bl⟩ s b := fun b ⟨id, loc, B, h1, h2, _⟩ => by
    have := hi.nlt id B h2
    simp only at h1; omega
  have hI : ∀ b, s1.I b → (s.quiet s1).I b := fun b hb => by
    rcases st.inew b hb with h | h | h
    · exact .inl h
    · exact absurd h (hnw b)
    · exact .inr ⟨h, st.inv.ilt b hb⟩
  have hframe : ∀ b, b < s.w.heap.size → s1.w.heap[b]? = s.w.heap[b]? := fun b hb => st.frame b hb (hnw b)
  have hv : ∀ v c, VR s v c → VR (s.quiet s1) v c := fun v c h => h.mono (s := s) (s' := s.quiet s1) (fun _ _ h => h) (fun _ h => .inl h) fun b hb => hframe b (hi.ilt b hb)
  refine ⟨⟨st.os, st.tape, st.output, st.hs, Nat.le_refl _, fun _ _ => rfl, fun b hb _ => hframe b hb, fun _ h => .inl h, fun b hb => ?_, fun id loc h1 h2 => absurd h1 (Nat.not_le_of_lt h2), rfl, fun _ _ _ => rfl, fun id B _ h => ⟨B, h⟩, ?_⟩, ?_⟩
  · rcases hb with h | h
    · exact .inl h
    · exact .inr (.inr h.1)
  · refine ⟨hi.fln, fun id loc h => Nat.lt_of_lt_of_le (hi.rlt id loc h) st.hs, fun b hb => ?_, hi.nlt, fun id B h => ?_, hi.inj⟩
    · rcases hb with h | h
      · exact Nat.lt_of_lt_of_le (hi.ilt b h) st.hs
      · exact h.2
    · obtain ⟨loc, e1, e2, e3⟩ := hi.blk id B h
      have hlt := hi.rlt id loc e1
      refine ⟨loc, e1, fun hb => ?_, e3.mono hv (hframe _ hlt)⟩
      rcases hb with h | h
      · exact e2 h
      · omega
  · refine frz_ok st.inv hI (fun id loc B h1 h2 h3 => ?_) (fun id h => ?_)
    · rcases st.rnew id loc h1 (st.inv.nlt id B h2) h3 with h | h
      · exact absurd h (hnw _)
      · exact h
    · exact st.rho id (.inl h)
end
end Go.Proofs.YtkgghgigjeihjaaGreat.Sim
