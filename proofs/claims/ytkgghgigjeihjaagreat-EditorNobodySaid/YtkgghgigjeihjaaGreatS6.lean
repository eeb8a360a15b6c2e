/- Append, whole; copy. -/
import Derived.Test.YtkgghgigjeihjaaGreatS5
namespace Go.Proofs.YtkgghgigjeihjaaGreat.Sim
set_option linter.unusedVariables false
set_option linter.unusedSimpArgs false
section
variable {P : Program} {Γ : Ctx} {s : CS} {H : AH}

theorem appCells_ok (hΓ : Γ.Ok P) (hi : Inv H s) {e : TypeId} {j : TI} (hJ : TyOk P e j) (hz : 0 < j.size ∧ j.zero.cells.length = j.size) {y : AV} {d : Value} {n : Nat} {z : Bool} {l : List AV} (hy : VR s y d) (h : newCells Γ j y n z H = some l) :
    ∃ cs, (appCells e j.size n z d).run P s.w = .ok cs s.w ∧ LR s l cs.toList ∧ l.length = n * j.size := by
  unfold newCells at h
  cases z with
  | false =>
    simp only [Bool.false_eq_true, if_false] at h
    simp only [appCells, Bool.not_false, if_true]
    exact row_ok hi h hy
  | true =>
    simp only [if_true, Option.some.injEq] at h
    subst h
    obtain ⟨zv, e1, e2⟩ := hJ.run_zero (s := s) s.w
    have hzc : zv.cells.size = j.size := by have := e2.cells.1; simp at this; omega
    have hl := zeros_lr e2.cells (by omega) (n * j.size)
    simp only [appCells, Bool.not_true, Bool.false_eq_true, if_false]
    by_cases h0 : n * j.size = 0
    · rw [if_pos h0, h0]
      exact ⟨#[], rfl, LR.nil, rfl⟩
    · rw [if_neg h0]
      refine ⟨_, by simp only [Sem.run_bind, e1, Result.andThen_ok]; rfl, ?_, zerosA_len _ _⟩
      simp only [Builtin.zeroCells, hzc]
      rw [hzc] at hl
      exact hl

theorem kill_step (hi : Inv H s) (id : Nat) (hfl : H.floor ≤ id) : Step H s (H.kill id) s := by
  refine ⟨rfl, rfl, rfl, Nat.le_refl _, Nat.le_refl _, fun _ _ => rfl, fun _ _ _ => rfl, fun _ h => h, fun _ h => .inl h, fun k loc h1 h2 => absurd h1 (Nat.not_le_of_lt h2), rfl, fun k h1 _ => upd_ne _ _ (by omega), ?_, ?_⟩
  · intro k B _ h
    simp only [AH.kill] at h; rw [upd_eq] at h; split at h
    · cases h
    · exact ⟨B, h⟩
  · have live : ∀ k B, (H.kill id).bl k = some B → H.bl k = some B := fun k B h => by
      simp only [AH.kill] at h; rw [upd_eq] at h; split at h
      · cases h
      · exact h
    exact ⟨hi.fln, hi.rlt, hi.ilt, fun k B h => hi.nlt k B (live k B h), fun k B h => hi.blk k B (live k B h), fun k k' B B' l l' h1 h2 h3 h4 h5 => hi.inj k k' B B' l l' (live _ _ h1) (live _ _ h2) h3 h4 h5⟩

/-- The row is full: a new one. -/
theorem grow_ok (hi : Inv H s) (hf : s.ρ H.nxt = none) {e : TypeId} {j : TI} (hJ : TyOk P e j) (hz : 0 < j.size ∧ j.zero.cells.length = j.size) (hΓ : Γ.Ok P) {x y : AV} {c d : Value} {len n sCap : Nat} {base : Option Addr} {z : Bool} {old new : List AV}
    (hc : c = .slice base len sCap) (hx : VR s x c) (hy : VR s y d) (ho : rowA x len j.size H = some old) (hn : newCells Γ j y n z H = some new) (hgt : ¬ (len + n ≤ sCap)) (hsmall : len + n ≤ 140737488355328) :
    ∃ c' s', (appRest e j.size j.bytes base len sCap n z c d).run P s.w = .ok c' s'.w ∧ Step H s (H.new (.cells (old ++ new))) s' ∧ VR s' (.slc H.nxt 0 (len + n) j.size none) c' := by
  let w1 : World := { s.w with drawn := s.w.drawn + 1 }
  let s1 : CS := { s with w := w1 }
  obtain ⟨st1, hv1⟩ := step_world hi w1 rfl rfl rfl rfl
  have hi1 : Inv H s1 := st1.inv
  obtain ⟨ocs, o1, o2, o3⟩ := row_ok (P := P) (s := s1) hi1 ho (hv1 _ _ hx)
  obtain ⟨ncs, n1, n2, n3⟩ := appCells_ok (P := P) (s := s1) hΓ hi1 hJ hz (hv1 _ _ hy) hn
  obtain ⟨zv, z1, z2⟩ := hJ.run_zero (s := s1) w1
  have hzc : zv.cells.size = j.size := by have := z2.cells.1; simp at this; omega
  let cap := Question.cut (.appendCap (len + n) sCap e) (s.w.tape s.w.drawn (.appendCap (len + n) sCap e))
  have hcap : len + n ≤ cap := by
    show len + n ≤ len + n + _
    omega
  let rest := Builtin.zeroCells zv.cells (cap - (len + n))
  let row : Array Value := ocs ++ ncs ++ rest
  have hrun : (appRest e j.size j.bytes base len sCap n z c d).run P s.w = .ok (.slice (some ⟨s.w.heap.size, 0, none⟩) (len + n) cap) ({ w1 with heap := w1.heap.push (.cells row e) }) := by
    simp only [appRest, if_neg hgt, Sem.run_bind, run_choose, Question.forced, Bool.false_eq_true, if_false, Result.andThen_ok, run_askRoom]
    have o1' : (Builtin.firstCells j.size len c).run P w1 = .ok ocs w1 := o1
    have n1' : (appCells e j.size n z d).run P w1 = .ok ncs w1 := n1
    have z1' : (zeroValue e).run P w1 = .ok zv w1 := z1
    show (((Builtin.firstCells j.size len c).run P w1).andThen _) = _
    simp only [o1', Result.andThen_ok, n1', z1']
    rfl
  have hsize : row.size = cap * j.size := by
    have h1 := o2.1; have h2 := n2.1
    simp only [Array.length_toList] at h1 h2
    have h3 : rest.size = (cap - (len + n)) * j.size := by simp [rest, Builtin.zeroCells, hzc]
    show (ocs ++ ncs ++ rest).size = _
    rw [Array.size_append, Array.size_append, h3, ← h1, ← h2, o3, n3, ← Nat.add_mul, ← Nat.add_mul]
    congr 1; omega
  have hlr : LR s1 (old ++ new) (ocs.toList ++ ncs.toList) := o2.append n2
  have st2 : Step H s1 (H.new (.cells (old ++ new))) (s1.new H.nxt (.cells row e) 0 row.size) := by
    refine step_new hi1 hf _ _ 0 row.size ⟨row, e, 0, 0, ?_, ⟨rfl, ?_⟩, .inr (Nat.le_refl _), fun i v hv => ?_⟩
    · show (s1.w.alloc (.cells row e)).heap[s1.w.heap.size]? = _
      exact Array.getElem?_push_size
    · simp only [Nat.zero_add, List.length_append, o3, n3, hsize]
      rw [← Nat.add_mul]; exact Nat.mul_le_mul_right _ hcap
    · obtain ⟨cv, g1, g2⟩ := hlr.get hv
      refine ⟨cv, ?_, CS.new_vr hi1.ilt hf _ _ _ g2⟩
      have hlt := (List.getElem?_eq_some_iff.1 g1).1
      rw [Nat.zero_add, ← Array.getElem?_toList]
      show (ocs ++ ncs ++ rest).toList[i]? = _
      rw [Array.toList_append, Array.toList_append, List.getElem?_append_left hlt, g1]
  refine ⟨.slice (some ⟨s.w.heap.size, 0, none⟩) (len + n) cap, s1.new H.nxt (.cells row e) 0 row.size, ?_, st1.trans st2, ?_⟩
  · rw [hrun]; rfl
  · exact VR.slc _ 0 (len + n) j.size none ⟨s.w.heap.size, 0, row.size⟩ 0 cap (by simp [CS.new, s1, w1]) (.inr rfl) hcap (by simp [hsize]) (fun k hk => by cases hk)

/-- There is room: the block goes on as another one. -/
theorem room_ok (hi : Inv H s) (hf : s.ρ H.nxt = none) {e : TypeId} {j : TI} (hJ : TyOk P e j) (hz : 0 < j.size ∧ j.zero.cells.length = j.size) (hΓ : Γ.Ok P) {id off len : Nat} {cap : Option Nat} {y : AV} {c d : Value} {n sCap : Nat} {base : Option Addr} {z : Bool} {vs new : List AV}
    (hc : c = .slice base len sCap) (hx : VR s (.slc id off len j.size cap) c) (hy : VR s y d) (hbl : H.bl id = some (.cells vs)) (hn : newCells Γ j y n z H = some new) (hle : len + n ≤ sCap) (hfr : off + len * j.size = vs.length) (hfl : H.floor ≤ id) (hcell : new.all AV.cell = true) :
    ∃ c' s', (appRest e j.size j.bytes base len sCap n z c d).run P s.w = .ok c' s'.w ∧ Step H s (H.move id (.cells (vs.drop off ++ new))) s' ∧ VR s' (.slc H.nxt 0 (len + n) j.size cap) c' := by
  obtain ⟨loc, o, k, hcc, hr, ho, hl, hcap, hk⟩ := hx.of_slc
  rw [hc] at hcc
  simp only [Value.slice.injEq] at hcc
  obtain ⟨rfl, _, rfl⟩ := hcc
  obtain ⟨ncs, n1, n2, n3⟩ := appCells_ok (P := P) hΓ hi hJ hz hy hn
  obtain ⟨loc', g1, hnI, cc, Ty, lo, hh, g2, g3, g4, g5⟩ := hi.blk _ _ hbl
  rw [hr] at g1; cases g1
  have hnlen : ncs.toList.length = n * j.size := by rw [← n2.1, n3]
  have hmul : (len + n) * j.size ≤ sCap * j.size := Nat.mul_le_mul_right _ hle
  rw [Nat.add_mul] at hmul
  let loc' : Loc := ⟨loc.blk, loc.off + off, loc.size⟩
  have hone : ∀ v ∈ ncs.toList, v.oneCell' = true := fun v hv => by
    obtain ⟨i, hi', rfl⟩ := List.getElem_of_mem hv
    obtain ⟨x, e1, e2⟩ := n2.get' (List.getElem?_eq_getElem hi')
    exact e2.one (List.all_eq_true.1 hcell x (List.mem_of_getElem? e1))
  -- the place where they are laid; where there is nothing to lay the address may be any
  have hst : ∃ w', (storeCells (Addr.add ⟨loc.blk, o, none⟩ (len * j.size)) ncs.toList).run P s.w = .ok () w' ∧ w'.os = s.w.os ∧ w'.tape = s.w.tape ∧ w'.output = s.w.output ∧ w'.heap.size = s.w.heap.size ∧ (∀ b, b ≠ loc.blk → w'.heap[b]? = s.w.heap[b]?) ∧
      ∃ c' : Array Value, w'.heap[loc.blk]? = some (.cells c' Ty (lo, hh)) ∧ c'.size = cc.size ∧ ∀ i, c'[i]? = if loc.off + off + len * j.size ≤ i ∧ i < loc.off + off + len * j.size + ncs.toList.length then ncs.toList[i - (loc.off + off + len * j.size)]? else cc[i]? := by
    by_cases h0 : ncs.toList = []
    · rw [h0]
      exact ⟨s.w, rfl, rfl, rfl, rfl, rfl, fun _ _ => rfl, cc, g2, rfl, fun i => by rw [if_neg (by simp)]⟩
    · have hpos : 0 < n := by
        rcases Nat.eq_zero_or_pos n with h | h
        · rw [h, Nat.zero_mul] at hnlen; exact absurd (List.length_eq_zero_iff.1 hnlen) h0
        · exact h
      have ho' : o = loc.off + off := ho.resolve_left (by omega)
      subst ho'
      have hrun := run_storeCells_cells (P := P) loc.blk (loc.off + off + len * j.size) ncs.toList 0 s.w
        (fun i hi' => by
          have : loc.off + off + len * j.size + i < cc.size := by have := g3.1; omega
          simp [World.cell?, g2, this])
        (fun i hi' => by
          have : loc.off + off + len * j.size + i < cc.size := by have := g3.1; omega
          simp [World.frozen?, g2]; omega) hone
      obtain ⟨a1, a2, a3, a4, a5⟩ := setCells_world loc.blk ncs.toList (loc.off + off + len * j.size) s.w
      obtain ⟨c', b1, b2, b3⟩ := setCells_block loc.blk Ty (lo, hh) ncs.toList (loc.off + off + len * j.size) s.w cc g2 (by have := g3.1; omega)
      exact ⟨_, by rw [add_at]; exact hrun, a1, a2, a3, a4, a5, c', b1, b2, b3⟩
  obtain ⟨w', hrun, a1, a2, a3, a4, a5, c', b1, b2, b3⟩ := hst
  let s' : CS := { w := w', ρ := fun q => if q = H.nxt then some loc' else s.ρ q, I := s.I }
  have hstep := step_move (B := .cells (vs.drop off ++ new)) hi hf hbl hfl hr (loc' := loc') rfl w' a1 a2 a3 a4 a5 s' rfl (fun hv => by
    refine ⟨c', Ty, lo, hh, b1, ⟨b2.trans g3.1, ?_⟩, by rw [b2]; exact g4, fun i x hx => ?_⟩
    · rw [b2]
      simp only [loc', List.length_append, List.length_drop, n3]
      have := g3.1; omega
    · rw [b3]
      rw [List.getElem?_append] at hx
      simp only [List.length_drop] at hx
      simp only [loc']
      split at hx
      · rename_i hlt
        rw [if_neg (by omega)]
        rw [List.getElem?_drop] at hx
        obtain ⟨cv, e1, e2⟩ := g5 _ _ hx
        exact ⟨cv, by rw [← e1]; congr 1; omega, hv _ _ e2⟩
      · rename_i hlt
        obtain ⟨cv, e1, e2⟩ := n2.get hx
        have hlt2 := (List.getElem?_eq_some_iff.1 e1).1
        rw [if_pos (by omega)]
        exact ⟨cv, by rw [← e1]; congr 1; omega, hv _ _ e2⟩)
  refine ⟨.slice (some ⟨loc.blk, o, none⟩) (len + n) sCap, s', ?_, hstep.1, ?_⟩
  · simp only [appRest, if_pos hle, Sem.run_bind, n1, Result.andThen_ok, hrun]; rfl
  · refine VR.slc _ 0 (len + n) j.size cap loc' o sCap (by simp [s']) ?_ hle ?_ hk
    · rcases ho with h | h
      · exact .inl h
      · exact .inr (by simp [loc', h])
    · simp only [loc']; omega

theorem append_ok (hΓ : Γ.Ok P) (hi : Inv H s) {ats : Array TypeId} {x y v : AV} {c d : Value} {H' : AH} (h : appendA Γ ats.toList x y H = some (v, H')) (hf : Fresh s H.nxt H'.nxt) (hx : VR s x c) (hy : VR s y d) (ty : TypeId) :
    ∃ c' s', (Builtin.append_ ats ty #[c, d]).run P s.w = .ok c' s'.w ∧ Step H s H' s' ∧ VR s' v c' := by
  unfold appendA at h
  split at h
  · cases h
  · rename_i T h0
    have h0' : ats[0]? = some T := by simpa using h0
    split at h
    · cases h
    · rename_i i hti
      have hT := hΓ.ty T i hti
      split at h
      · rename_i e hd
        split at h
        · rename_i j n z hj hcnt
          have hJ := hΓ.ty e j hj
          have hcnt' : cntA Γ ats[1]? y = some (n, z) := by
            have e1 : ats.toList[1]? = ats[1]? := by simp
            rw [← e1]; exact hcnt
          split at h
          · rename_i hz
            have hz' : 0 < j.size ∧ j.zero.cells.length = j.size := ⟨hz.1, hz.2.2⟩
            split at h
            · cases h
            · rename_i new hnew
              split at h
              · rename_i id off len es cap
                split at h
                · rename_i vs hbl
                  split at h
                  · rename_i hcond
                    obtain ⟨rfl, hfit, hin⟩ := hcond
                    obtain ⟨loc, o, k, hcc, hr, ho, hl, hcap, hk⟩ := hx.of_slc
                    have hsmall : len + n ≤ 140737488355328 := Nat.le_trans (Nat.le_mul_of_pos_right _ hz.2.1) hfit
                    have hrun : ∀ w, (Builtin.append_ ats ty #[c, d]).run P w = (appRest e j.size j.bytes (some ⟨loc.blk, o, none⟩) len k n z c d).run P w := fun w => by
                      subst hcc
                      exact append_run hΓ h0' hT hd hJ hcnt' hy _ _ _ hz.2.1 hfit ty w
                    have hfresh : ∀ {B}, H' = H.new B ∨ H' = H.move id B → s.ρ H.nxt = none := fun {B} hB => hf _ (Nat.le_refl _) (by rcases hB with rfl | rfl <;> simp [AH.new, AH.move])
                    have hrow : rowA (.slc id off len j.size cap) len j.size H = some ((vs.drop off).take (len * j.size)) := by
                      unfold rowA; simp only [hbl]; rw [if_pos ⟨trivial, Nat.le_refl _, hin⟩]
                    split at h
                    · rename_i q
                      have hkq : k = q := hk q rfl
                      subst hkq
                      split at h
                      · rename_i hle
                        split at h
                        · rename_i hc2
                          cases h
                          obtain ⟨c', s', e1, e2, e3⟩ := room_ok (P := P) hi (hfresh (.inr rfl)) hJ hz' hΓ hcc hx hy hbl hnew hle hc2.1 hc2.2.1 hc2.2.2
                          exact ⟨c', s', (hrun _).trans e1, e2, e3⟩
                        · cases h
                      · rename_i hle
                        cases h
                        obtain ⟨c', s', e1, e2, e3⟩ := grow_ok (P := P) hi (hfresh (.inl rfl)) hJ hz' hΓ hcc hx hy hrow hnew hle hsmall
                        exact ⟨c', s', (hrun _).trans e1, e2, e3⟩
                    · split at h
                      · rename_i hc2
                        cases h
                        by_cases hle : len + n ≤ k
                        · obtain ⟨c', s', e1, e2, e3⟩ := room_ok (P := P) hi (hfresh (.inr rfl)) hJ hz' hΓ hcc hx hy hbl hnew hle hc2.1 hc2.2.1 hc2.2.2
                          exact ⟨c', s', (hrun _).trans e1, e2, e3⟩
                        · obtain ⟨c', s', e1, e2, e3⟩ := grow_ok (P := P) hi (hfresh (.inr rfl)) hJ hz' hΓ hcc hx hy hrow hnew hle hsmall
                          have ht : (vs.drop off).take (len * j.size) = vs.drop off := List.take_of_length_le (by simp; omega)
                          rw [ht] at e2
                          have hid := hi.nlt _ _ hbl
                          have e4 := kill_step e2.inv id (by rw [e2.fl]; exact hc2.2.1)
                          have e5 : (H.new (.cells (vs.drop off ++ new))).kill id = H.move id (.cells (vs.drop off ++ new)) := by
                            simp only [AH.kill, AH.new, AH.move]
                            congr 1
                            funext q
                            simp only [upd_eq]
                            by_cases h1 : q = id <;> by_cases h2 : q = H.nxt <;> simp_all
                          rw [e5] at e4
                          exact ⟨c', s', (hrun _).trans e1, e2.trans e4, e3⟩
                      · cases h
                  · cases h
                · cases h
              · rename_i cells len ex
                split at h
                · rename_i hn
                  subst hn
                  split at h
                  · rename_i hfit
                    cases h
                    have hsl : ∃ base k, c = .slice base len k ∧ len ≤ k := by
                      rcases hx.of_lst with ⟨rfl, rfl, rfl⟩ | ⟨b, o, k, f, rfl, _, h1, _⟩
                      · exact ⟨none, 0, rfl, Nat.le_refl _⟩
                      · exact ⟨_, k, rfl, h1⟩
                    obtain ⟨base, k, hcc, hlk⟩ := hsl
                    obtain ⟨ncs, n1, n2, n3⟩ := appCells_ok (P := P) hΓ hi hJ hz' hy hnew
                    have hnil : ncs.toList = [] := by
                      have h1 := n2.1
                      rw [n3, Nat.zero_mul] at h1
                      exact List.length_eq_zero_iff.1 h1.symm
                    refine ⟨c, s, ?_, Step.refl hi, hx⟩
                    subst hcc
                    rw [append_run hΓ h0' hT hd hJ hcnt' hy _ _ _ hz.2.1 (by simpa using hfit) ty s.w]
                    simp only [appRest, Nat.add_zero, if_pos hlk, Sem.run_bind, n1, Result.andThen_ok, hnil]
                    cases base <;> rfl
                  · cases h
                · rename_i hn
                  split at h
                  · rename_i hcond
                    cases h
                    obtain ⟨rfl, hfit, hin⟩ := hcond
                    have hsmall : len + n ≤ 140737488355328 := Nat.le_trans (Nat.le_mul_of_pos_right _ hz.2.1) hfit
                    have hfresh : s.ρ H.nxt = none := hf _ (Nat.le_refl _) (by simp [AH.new])
                    have hrow : rowA (.lst cells len true) len j.size H = some (cells.take (len * j.size)) := by
                      simp only [rowA]; rw [if_pos hin]
                    have hsl : ∃ base, c = .slice base len len := by
                      rcases hx.of_lst with ⟨rfl, rfl, rfl⟩ | ⟨b, o, k, f, rfl, _, _, he, _⟩
                      · exact ⟨none, rfl⟩
                      · exact ⟨_, by rw [he rfl]⟩
                    obtain ⟨base, hcc⟩ := hsl
                    obtain ⟨c', s', e1, e2, e3⟩ := grow_ok (P := P) hi hfresh hJ hz' hΓ hcc hx hy hrow hnew (by omega) hsmall
                    refine ⟨c', s', ?_, e2, e3⟩
                    rw [← e1]
                    subst hcc
                    exact append_run hΓ h0' hT hd hJ hcnt' hy _ _ _ hz.2.1 hfit ty _
                  · cases h
              · cases h
          · cases h
        · cases h
      · cases h
end
end Go.Proofs.YtkgghgigjeihjaaGreat.Sim
