/- One operation that calls no function: what it gives, the model gives. -/
import Derived.Test.YtkgghgigjeihjaaGreatS11
namespace Go.Proofs.YtkgghgigjeihjaaGreat.Sim
set_option linter.unusedVariables false
set_option linter.unusedSimpArgs false
section
variable {P : Program} {Γ : Ctx} {s : CS} {H : AH}

theorem parts_map (ps : Array (Nat × Operand)) (a : Act) : ps.map (fun (i, x) => (i, a.eval x)) = (ps.toList.map fun (i, x) => (i, a.eval x)).toArray := by
  rw [← Array.toList_map, Array.toArray_toList]

theorem isNil_ok {u : AV} {c : Value} {b : Bool} (hu : VR s u c) (h : isNil u = some b) : ∃ base n k, c = .slice base n k ∧ base.isNone = b := by
  unfold isNil at h
  split at h
  · cases h
    cases hu with
    | pv _ _ h => cases h; exact ⟨none, 0, 0, rfl, rfl⟩
  · cases h
    cases hu with
    | pv _ _ h => cases h; exact ⟨_, _, _, rfl, rfl⟩
  · cases h
    obtain ⟨loc, o, k, rfl, _⟩ := hu.of_slc
    exact ⟨_, _, _, rfl, rfl⟩
  · split at h
    · cases h
    · rename_i hn
      cases h
      rcases hu.of_lst with ⟨_, h0, _⟩ | ⟨b, o, k, f, rfl, _⟩
      · exact absurd h0 hn
      · exact ⟨_, _, _, rfl, rfl⟩
  · cases h
theorem eq_nil_run {T : TypeId} {e : TypeId} (hr : ∀ w, (underlying T).run P w = .ok (.slice e) w) (d : Nat) (base : Option Addr) (n k : Nat) (w : World) :
    (Op.equalIn (d + 1) T (.slice base n k) (.slice none 0 0)).run P w = .ok base.isNone w := by
  cases base <;> (simp only [Op.equalIn, Sem.run_bind, hr, Result.andThen_ok]; rfl)
theorem nil_ok (hΓ : Γ.Ok P) {op : BinOp} {T : Nat} {u v : AV} {y : Operand} {c : Value} {a : Act} (h : nilA Γ op T u y = some v) (hu : VR s u c) (x : Operand) (w : World) :
    ∃ r, ((do eqGuard op T x y c (a.eval y); binOp op T c (a.eval y)) : Sem Value).run P w = .ok r w ∧ VR s v r := by
  unfold nilA at h
  split at h
  · split at h
    · rename_i i hti
      have hT := hΓ.ty T i hti
      generalize hd : i.desc = D at h
      have hr : ∀ w, (underlying T).run P w = .ok D w := fun w => by rw [hT.run_und, hd]
      split at h
      · rename_i e
        simp only [Option.map_eq_some_iff] at h
        obtain ⟨b, hb, rfl⟩ := h
        obtain ⟨base, n, k, rfl, rfl⟩ := isNil_ok hu hb
        refine ⟨.bool base.isNone, ?_, .pv _ _ (.bool _)⟩
        have hg : (eqGuard BinOp.eql T x (.const (.slice none 0 0)) (.slice base n k) (a.eval (.const (.slice none 0 0)))).run P w = .ok () w := guard_ok _ _ _ _ _ _ _ (by rintro (⟨_, h⟩ | ⟨_, h⟩) <;> cases h) (by simp)
        simp only [Sem.run_bind, hg, Result.andThen_ok]
        have he : (Op.equalIn 10000 T (.slice base n k) (.slice none 0 0)).run P w = .ok base.isNone w := eq_nil_run hr 9999 base n k w
        cases base <;> (simp only [binOp, Act.eval, Op.equal, Op.maxDepth, Sem.run_bind, he, Result.andThen_ok]; rfl)
      · rename_i e
        simp only [Option.map_eq_some_iff] at h
        obtain ⟨b, hb, rfl⟩ := h
        obtain ⟨base, n, k, rfl, rfl⟩ := isNil_ok hu hb
        refine ⟨.bool (!base.isNone), ?_, .pv _ _ (.bool _)⟩
        have hg : (eqGuard BinOp.neq T x (.const (.slice none 0 0)) (.slice base n k) (a.eval (.const (.slice none 0 0)))).run P w = .ok () w := guard_ok _ _ _ _ _ _ _ (by rintro (⟨_, h⟩ | ⟨_, h⟩) <;> cases h) (by simp)
        simp only [Sem.run_bind, hg, Result.andThen_ok]
        have he : (Op.equalIn 10000 T (.slice base n k) (.slice none 0 0)).run P w = .ok base.isNone w := eq_nil_run hr 9999 base n k w
        cases base <;> (simp only [binOp, Act.eval, Op.equal, Op.maxDepth, Sem.run_bind, he, Result.andThen_ok]; rfl)
      · cases h
    · cases h
  · cases h

/-- What an operation leaves behind. -/
def Done (P : Program) (m : Sem Next) (H : AH) (s : CS) (H' : AH) (v : AV) : Prop :=
  ∃ n s', m.run P s.w = .ok n s'.w ∧ Step H s H' s' ∧ ((∃ c, n = .value c ∧ VR s' v c) ∨ (n = .skip ∧ v = .tup []))
theorem done_v (hi : Inv H s) {m : Sem Value} {v : AV} (h : ∃ c, m.run P s.w = .ok c s.w ∧ VR s v c) : Done P (do pure (.value (← m))) H s H v := by
  obtain ⟨c, h1, h2⟩ := h
  exact ⟨.value c, s, by simp only [Sem.run_bind, h1, Result.andThen_ok]; rfl, Step.refl hi, .inl ⟨c, rfl, h2⟩⟩
theorem done_s {m : Sem Value} {v : AV} {H' : AH} (h : ∃ c s', m.run P s.w = .ok c s'.w ∧ Step H s H' s' ∧ VR s' v c) : Done P (do pure (.value (← m))) H s H' v := by
  obtain ⟨c, s', h1, h2, h3⟩ := h
  exact ⟨.value c, s', by simp only [Sem.run_bind, h1, Result.andThen_ok]; rfl, h2, .inl ⟨c, rfl, h3⟩⟩
theorem done_u {m : Sem Unit} {H' : AH} (h : ∃ s', m.run P s.w = .ok () s'.w ∧ Step H s H' s') : Done P (do m; pure .skip) H s H' (.tup []) := by
  obtain ⟨s', h1, h2⟩ := h
  exact ⟨.skip, s', by simp only [Sem.run_bind, h1, Result.andThen_ok]; rfl, h2, .inr ⟨rfl, rfl⟩⟩

theorem ev1_ok (hΓ : Γ.Ok P) (hi : Inv H s) {t : List AV} {a : Act} (ht : LR s t a.tmps.toList) (o : Oper) {v : AV} {H' : AH} (h : ev1 Γ t o.op H = some (v, H')) (hf : Fresh s H.nxt H'.nxt) : Done P (execOp a.eval o) H s H' v := by
  obtain ⟨dst, op, type, pos, after, guard⟩ := o
  simp only at h
  unfold execOp
  simp only
  cases op with
  | move x =>
    simp only [ev1, Option.map_eq_some_iff] at h
    obtain ⟨u, h1, h2⟩ := h
    cases h2
    exact ⟨_, s, rfl, Step.refl hi, .inl ⟨_, rfl, opv_vr ht h1⟩⟩
  | assign x =>
    simp only [ev1, Option.map_eq_some_iff] at h
    obtain ⟨u, h1, h2⟩ := h
    cases h2
    exact ⟨_, s, rfl, Step.refl hi, .inl ⟨_, rfl, opv_vr ht h1⟩⟩
  | pick c x y =>
    simp only [ev1] at h
    split at h
    · rename_i q u w h1 h2 h3
      cases h
      have hc := (opv_vr ht h1).of_bool
      refine ⟨.value (if q = true then a.eval x else a.eval y), s, by simp only [hc, asBool, Sem.run_bind, Sem.run_pure, Result.andThen_ok], Step.refl hi, .inl ⟨_, rfl, ?_⟩⟩
      cases q
      · exact opv_vr ht h3
      · exact opv_vr ht h2
    · cases h
  | alloc e =>
    simp only [ev1] at h
    split at h
    · rename_i i hti
      cases h
      have hT := hΓ.ty e i hti
      obtain ⟨z, z1, z2⟩ := hT.run_zero (s := s) s.w
      have hfr : s.ρ H.nxt = none := hf _ (Nat.le_refl _) (by simp [AH.new])
      refine done_s ⟨.pointer (some ⟨s.w.heap.size, 0, none⟩), _, ?_, new_cells hi hfr e z2.cells, new_ptr _ _ _⟩
      simp only [Instr.alloc, Sem.run_bind, z1, Result.andThen_ok]; rfl
    · cases h
  | box e x =>
    simp only [ev1] at h
    split at h
    · rename_i u hu
      cases h
      have hfr : s.ρ H.nxt = none := hf _ (Nat.le_refl _) (by simp [AH.new])
      exact done_s ⟨.pointer (some ⟨s.w.heap.size, 0, none⟩), _, rfl, new_cells hi hfr e (opv_vr ht hu).cells, new_ptr _ _ _⟩
    · cases h
  | build T ps =>
    simp only [ev1] at h
    split at h
    · rename_i l hl
      simp only [Option.map_eq_some_iff] at h
      obtain ⟨u, h1, h2⟩ := h
      cases h2
      simp only [parts_map]
      exact done_v hi (build_ok hΓ h1 (optParts_ok ht hl) s.w)
    · cases h
  | buildSlice T n ps =>
    simp only [ev1] at h
    split at h
    · rename_i l hl
      simp only [Option.map_eq_some_iff] at h
      obtain ⟨⟨u, B⟩, h1, h2⟩ := h
      cases h2
      have hfr : s.ρ H.nxt = none := hf _ (Nat.le_refl _) (by simp [AH.new])
      simp only [parts_map]
      exact done_s (buildSlice_ok hΓ hi hfr h1 (optParts_ok ht hl))
    · cases h
  | load T x =>
    simp only [ev1] at h
    split at h
    · rename_i p hp
      simp only [Option.map_eq_some_iff] at h
      obtain ⟨u, h1, h2⟩ := h
      cases h2
      exact done_v hi (ld_ok hΓ hi h1 (opv_vr ht hp))
    · cases h
  | store T x y =>
    simp only [ev1] at h
    split at h
    · rename_i p u hp hu
      simp only [Option.map_eq_some_iff] at h
      obtain ⟨H1, h1, h2⟩ := h
      cases h2
      exact done_u (st_ok hΓ hi h1 (opv_vr ht hp) (opv_vr ht hu))
    · cases h
  | nilCheck x =>
    simp only [ev1] at h
    split at h
    · rename_i q hp
      cases h
      have hv := opv_vr ht hp
      obtain ⟨loc, hc, _⟩ := VR.of_ptr (id := q.1) (off := q.2) hv
      refine ⟨.value (a.eval x), s, ?_, Step.refl hi, .inl ⟨_, rfl, hv⟩⟩
      dsimp only
      rw [hc]; rfl
    · rename_i l hp
      cases h
      have hv := opv_vr ht hp
      obtain ⟨b, o, f, hc, _⟩ := hv.of_cptr
      refine ⟨.value (a.eval x), s, ?_, Step.refl hi, .inl ⟨_, rfl, hv⟩⟩
      dsimp only
      rw [hc]; rfl
    · rename_i g p q hp
      split at h
      · rename_i hg
        cases h
        have hv := opv_vr ht hp
        obtain ⟨a', b', hc, _⟩ := hv.of_fn
        refine ⟨.value (a.eval x), s, ?_, Step.refl hi, .inl ⟨_, rfl, hv⟩⟩
        dsimp only
        rw [hc]
        cases g <;> first
          | rfl
          | (cases hg; done)
      · cases h
    · cases h
  | binOp op T x y yT =>
    simp only [ev1] at h
    split at h
    · rename_i u w hu hw
      split at h
      · rename_i r hr
        cases h
        exact done_v hi (nil_ok hΓ hr (opv_vr ht hu) x s.w)
      · simp only [Option.map_eq_some_iff] at h
        obtain ⟨r, h1, h2⟩ := h
        cases h2
        exact done_v hi (bin_ok hΓ h1 (opv_vr ht hu) (opv_vr ht hw) x y s.w)
    · cases h
  | unOp op T x =>
    simp only [ev1] at h
    split at h
    · rename_i u hu
      simp only [Option.map_eq_some_iff] at h
      obtain ⟨r, h1, h2⟩ := h
      cases h2
      exact done_v hi (un_ok h1 (opv_vr ht hu) s.w)
    · cases h
  | convert src d x =>
    simp only [ev1] at h
    split at h
    · rename_i u hu
      exact done_s (conv_ok hΓ hi h hf (opv_vr ht hu).sl)
    · cases h
  | makeFunc g x y =>
    simp only [ev1] at h
    split at h
    · rename_i l m hl hm
      cases h
      have h1 := opvs_lr ht hl
      have h2 := opvs_lr ht hm
      refine done_v hi ⟨.func g (x.map a.eval) (y.map a.eval), rfl, ?_⟩
      rw [← Array.toList_map] at h1 h2
      exact .fn g l m _ _ (by simpa using h1.1) (by simpa using h2.1) (fun i p q e1 e2 => h1.2 i p q e1 (by simpa using e2)) (fun i p q e1 e2 => h2.2 i p q e1 (by simpa using e2))
    · cases h
  | makeMap T r =>
    simp only [ev1] at h
    split at h
    · rename_i hr
      cases h
      have hr' : r = none := by
        cases r with
        | none => rfl
        | some x =>
          simp only [opo, Option.map_eq_some_iff] at hr
          obtain ⟨_, _, h⟩ := hr
          cases h
      subst hr'
      have hfr : s.ρ H.nxt = none := hf _ (Nat.le_refl _) (by simp [AH.new])
      obtain ⟨g1, g2⟩ := new_map hi hfr
      exact done_s ⟨_, _, rfl, g1, g2⟩
    · cases h
  | makeSlice T x y =>
    simp only [ev1] at h
    split at h
    · rename_i u w hu hw
      exact done_s (makeSlice_ok hΓ hi h hf (opv_vr ht hu) (opv_vr ht hw))
    · cases h
  | slice T x lo hi' mx =>
    simp only [ev1] at h
    split at h
    · rename_i u p q r hu hp hq hr
      simp only [Option.map_eq_some_iff] at h
      obtain ⟨z, h1, h2⟩ := h
      cases h2
      exact done_v hi (slice_ok hΓ h1 (opv_vr ht hu).sl (opo_ov ht hp) (opo_ov ht hq) (opo_ov ht hr) s.w)
    · cases h
  | fieldAddr T x k =>
    simp only [ev1] at h
    split at h
    · rename_i u hu
      simp only [Option.map_eq_some_iff] at h
      obtain ⟨z, h1, h2⟩ := h
      cases h2
      exact done_v hi (fieldAddr_ok hΓ h1 (opv_vr ht hu) s.w)
    · cases h
  | field T x k =>
    simp only [ev1] at h
    split at h
    · rename_i u hu
      simp only [Option.map_eq_some_iff] at h
      obtain ⟨z, h1, h2⟩ := h
      cases h2
      exact done_v hi (field_ok hΓ h1 (opv_vr ht hu) s.w)
    · cases h
  | indexAddr T x y =>
    simp only [ev1] at h
    split at h
    · rename_i u w hu hw
      simp only [Option.map_eq_some_iff] at h
      obtain ⟨z, h1, h2⟩ := h
      cases h2
      exact done_v hi (indexAddr_ok hΓ h1 (opv_vr ht hu).sl (opv_vr ht hw) s.w)
    · cases h
  | index T x y =>
    simp only [ev1] at h
    split at h
    · rename_i u w hu hw
      simp only [Option.map_eq_some_iff] at h
      obtain ⟨z, h1, h2⟩ := h
      cases h2
      exact done_v hi (index_ok hΓ h1 (opv_vr ht hu) (opv_vr ht hw) s.w)
    · cases h
  | lookup T x y ok =>
    simp only [ev1] at h
    split at h
    · rename_i u w hu hw
      simp only [Option.map_eq_some_iff] at h
      obtain ⟨z, h1, h2⟩ := h
      cases h2
      exact done_v hi (lookup_ok hΓ hi h1 (opv_vr ht hu) (opv_vr ht hw))
    · cases h
  | mapUpdate T m k x =>
    simp only [ev1] at h
    split at h
    · rename_i u w z hu hw hz
      simp only [Option.map_eq_some_iff] at h
      obtain ⟨H1, h1, h2⟩ := h
      cases h2
      exact done_u (mapPut_ok hΓ hi h1 (opv_vr ht hu) (opv_vr ht hw) (opv_vr ht hz))
    · cases h
  | insert T m k x =>
    simp only [ev1] at h
    split at h
    · rename_i u w z hu hw hz
      simp only [Option.map_eq_some_iff] at h
      obtain ⟨H1, h1, h2⟩ := h
      cases h2
      exact done_u (mapPut_ok hΓ hi h1 (opv_vr ht hu) (opv_vr ht hw) (opv_vr ht hz))
    · cases h
  | range T x =>
    simp only [ev1] at h
    split at h
    · rename_i u hu
      exact done_s (range_ok hΓ hi h hf (opv_vr ht hu))
    · cases h
  | next x is =>
    simp only [ev1] at h
    split at h
    · rename_i u hu
      exact done_s (next_ok hi h (opv_vr ht hu) type)
    · cases h
  | extract x k =>
    simp only [ev1] at h
    split at h
    · rename_i u hu
      simp only [Option.map_eq_some_iff] at h
      obtain ⟨z, h1, h2⟩ := h
      cases h2
      exact done_v hi (extract_ok h1 (opv_vr ht hu) s.w)
    · cases h
  | call c =>
    obtain ⟨callee, args, ats⟩ := c
    cases callee with
    | value f => cases h
    | invoke r m => cases h
    | builtin b =>
      simp only [ev1] at h
      split at h
      · rename_i l hl
        have hargs := opvs_lr ht hl
        have hmap : args.map a.eval = (args.toList.map a.eval).toArray := by rw [← Array.toList_map, Array.toArray_toList]
        have key : ∀ (m : Array Bool → Sem Next), (∀ q, Done P (m q) H s H' v) → (∀ q, builtin b ats type q (args.map a.eval) = m q) → Done P (do
            let d ← resolve a.eval ⟨.builtin b, args, ats⟩ type
            invoke d.target d.args) H s H' v := fun m hm he => by
          have hm' := hm (args.map fun | .const _ => true | _ => false)
          rw [← he] at hm'
          exact hm'
        split at h
        · rename_i x y
          obtain ⟨c1, cs1, e1, g1, g2⟩ := hargs.of_cons
          obtain ⟨c2, cs2, e2, g3, g4⟩ := g2.of_cons
          have e3 := g4.of_nil
          have he : args.map a.eval = #[c1, c2] := by rw [hmap, e1, e2, e3]
          refine key (fun _ => do pure (.value (← Builtin.append_ ats type #[c1, c2]))) (fun _ => done_s (append_ok hΓ hi h hf g1.sl g3.sl type)) (fun q => by rw [he]; rfl)
        · rename_i x y
          obtain ⟨c1, cs1, e1, g1, g2⟩ := hargs.of_cons
          obtain ⟨c2, cs2, e2, g3, g4⟩ := g2.of_cons
          have e3 := g4.of_nil
          have he : args.map a.eval = #[c1, c2] := by rw [hmap, e1, e2, e3]
          split at h
          · rename_i hat
            refine key (fun _ => do pure (.value (← Builtin.copy_ ats type #[c1, c2]))) (fun _ => done_s (copy_ok hΓ hi h g1.sl g3.sl type hat)) (fun q => by rw [he]; rfl)
          · cases h
        · rename_i x
          obtain ⟨c1, cs1, e1, g1, g2⟩ := hargs.of_cons
          have e3 := g2.of_nil
          have he : args.map a.eval = #[c1] := by rw [hmap, e1, e3]
          split at h
          · rename_i T hT
            simp only [Option.map_eq_some_iff] at h
            obtain ⟨z, h1, h2⟩ := h
            cases h2
            refine key (fun _ => do pure (.value (← Builtin.len_ ats type #[c1]))) (fun _ => done_v hi (len_ok hΓ hi hT h1 g1.sl)) (fun q => by rw [he]; rfl)
          · cases h
        · rename_i l
          simp only [Option.map_eq_some_iff] at h
          obtain ⟨z, h1, h2⟩ := h
          cases h2
          refine key (fun _ => do pure (.value (← Builtin.min_ ats type (args.map a.eval)))) (fun _ => done_v hi ((minmax_ok (by rw [hmap]; exact hargs) ats type s.w).1 h1)) (fun q => rfl)
        · rename_i l
          simp only [Option.map_eq_some_iff] at h
          obtain ⟨z, h1, h2⟩ := h
          cases h2
          refine key (fun _ => do pure (.value (← Builtin.max_ ats type (args.map a.eval)))) (fun _ => done_v hi ((minmax_ok (by rw [hmap]; exact hargs) ats type s.w).2 h1)) (fun q => rfl)
        · rename_i x k
          obtain ⟨c1, cs1, e1, g1, g2⟩ := hargs.of_cons
          obtain ⟨c2, cs2, e2, g3, g4⟩ := g2.of_cons
          have e3 := g4.of_nil
          have he : args.map a.eval = #[c1, c2] := by rw [hmap, e1, e2, e3]
          simp only [Option.map_eq_some_iff] at h
          obtain ⟨H1, h1, h2⟩ := h
          cases h2
          obtain ⟨s', b1, b2⟩ := delete_ok hΓ hi h1 g1 g3 type
          refine key (fun _ => do pure (.value (← Builtin.delete_ ats type #[c1, c2]))) (fun _ => done_s ⟨.tuple #[], s', b1, b2, VR.undef⟩) (fun q => by rw [he]; rfl)
        · cases h
      · cases h
  | _ => cases h
end
end Go.Proofs.YtkgghgigjeihjaaGreat.Sim
