/- Steps of the memory: a new block, a block written, a block that goes on as another one. -/
import Derived.Test.YtkgghgigjeihjaaGreatS0
import Derived.Laws.IdiomCopy
namespace Go.Proofs.YtkgghgigjeihjaaGreat.Sim
set_option linter.unusedVariables false
set_option linter.unusedSimpArgs false

/-- A world that differs in its draws alone. -/
theorem step_world {H : AH} {s : CS} (hi : Inv H s) (w' : World) (hh : w'.heap = s.w.heap) (h1 : w'.os = s.w.os) (h2 : w'.tape = s.w.tape) (h3 : w'.output = s.w.output) :
    Step H s H { s with w := w' } ∧ ∀ v c, VR s v c → VR { s with w := w' } v c := by
  have hv : ∀ v c, VR s v c → VR { s with w := w' } v c := fun v c h => h.mono (s := s) (s' := { s with w := w' }) (fun _ _ h => h) (fun _ h => h) fun b _ => by simp only [hh]
  refine ⟨⟨h1, h2, h3, by simp only [hh]; exact Nat.le_refl _, Nat.le_refl _, fun _ _ => rfl, fun b _ _ => by simp only [hh], fun _ h => h, fun _ h => .inl h, fun id loc h1 h2 => absurd h1 (by omega), rfl, fun _ _ _ => rfl, fun id B _ h => ⟨B, h⟩, ?_⟩, hv⟩
  exact ⟨hi.fln, fun id loc h => by simp only [hh]; exact hi.rlt id loc h, fun b h => by simp only [hh]; exact hi.ilt b h, hi.nlt,
    fun id B h => let ⟨loc, h1, h2, h3⟩ := hi.blk id B h; ⟨loc, h1, h2, h3.mono hv (by simp only [hh])⟩, hi.inj⟩

def CS.new (s : CS) (id : Nat) (o : Obj) (off size : Nat) : CS := { w := s.w.alloc o, ρ := fun k => if k = id then some ⟨s.w.heap.size, off, size⟩ else s.ρ k, I := s.I }

theorem CS.new_vr {s : CS} {id : Nat} (hi : ∀ b, s.I b → b < s.w.heap.size) (hf : s.ρ id = none) (o : Obj) (off size : Nat) {v : AV} {c : Value} (h : VR s v c) : VR (s.new id o off size) v c := by
  refine h.mono (s := s) (s' := s.new id o off size) (fun k loc hk => ?_) (fun _ h => h) fun b hb => ?_
  · simp only [CS.new]; rw [if_neg (by rintro rfl; rw [hf] at hk; cases hk)]; exact hk
  · have := hi b hb
    exact RowKit.Below.heap_alloc s.w o b this

/-- A new block. -/
theorem step_new {H : AH} {s : CS} (hi : Inv H s) (hf : s.ρ H.nxt = none) (o : Obj) (B : ABlk) (off size : Nat)
    (hB : BR (s.new H.nxt o off size) ⟨s.w.heap.size, off, size⟩ B) : Step H s (H.new B) (s.new H.nxt o off size) := by
  have hv : ∀ v c, VR s v c → VR (s.new H.nxt o off size) v c := fun v c h => CS.new_vr hi.ilt hf o off size h
  have hne : ∀ id B, H.bl id = some B → id ≠ H.nxt := fun id B h => by have := hi.nlt id B h; omega
  have hnew : (s.new H.nxt o off size).ρ H.nxt = some ⟨s.w.heap.size, off, size⟩ := by simp [CS.new]
  have hold : ∀ k, k ≠ H.nxt → (s.new H.nxt o off size).ρ k = s.ρ k := fun k hk => by simp [CS.new, hk]
  have hsz : (s.new H.nxt o off size).w.heap.size = s.w.heap.size + 1 := World.size_alloc _ _
  refine ⟨rfl, rfl, rfl, by rw [hsz]; omega, by simp [AH.new], fun id h => hold id (by simp only [AH.new] at h; omega), fun b hb _ => RowKit.Below.heap_alloc s.w o b hb, fun _ h => h, fun _ h => .inl h, ?_, rfl, ?_, ?_, ?_⟩
  · intro id loc h1 h2 h3
    have : id = H.nxt := by simp only [AH.new] at h2; omega
    subst this
    rw [hnew] at h3; cases h3; exact .inr (Nat.le_refl _)
  · intro id h1 h2
    simp only [AH.new]; rw [upd_ne _ _ (by omega)]
  · intro id B' h1 h2
    simp only [AH.new] at h2; rw [upd_ne _ _ (by omega)] at h2; exact ⟨B', h2⟩
  · refine ⟨by have := hi.fln; simp only [AH.new]; omega, fun id loc h => ?_, fun b h => ?_, fun id B' h => ?_, fun id B' h => ?_, fun id id' B1 B2 loc loc' h1 h2 h3 h4 h5 => ?_⟩
    · rw [hsz]
      by_cases hx : id = H.nxt
      · subst hx; rw [hnew] at h; cases h; simp
      · rw [hold id hx] at h; have := hi.rlt id loc h; omega
    · rw [hsz]; have := hi.ilt b h; omega
    · simp only [AH.new] at h ⊢
      rw [upd_eq] at h; split at h
      · omega
      · have := hi.nlt id B' h; omega
    · simp only [AH.new] at h
      by_cases hx : id = H.nxt
      · subst hx; rw [upd_same] at h; cases h
        exact ⟨_, hnew, fun hI => absurd (hi.ilt _ hI) (by simp), hB⟩
      · rw [upd_ne _ _ hx] at h
        obtain ⟨loc, e1, e2, e3⟩ := hi.blk id B' h
        refine ⟨loc, by rw [hold id hx]; exact e1, e2, e3.mono hv (RowKit.Below.heap_alloc s.w o _ (hi.rlt id loc e1))⟩
    · simp only [AH.new] at h1 h2
      by_cases hx : id = H.nxt <;> by_cases hy : id' = H.nxt
      · omega
      · subst hx; rw [hnew] at h3; cases h3
        rw [hold _ hy] at h4; have := hi.rlt _ _ h4; simp only at h5; omega
      · subst hy; rw [hnew] at h4; cases h4
        rw [hold _ hx] at h3; have := hi.rlt _ _ h3; simp only at h5; omega
      · rw [upd_ne _ _ hx] at h1; rw [upd_ne _ _ hy] at h2; rw [hold _ hx] at h3; rw [hold _ hy] at h4
        exact hi.inj _ _ _ _ _ _ h1 h2 h3 h4 h5

/-- A block written. -/
theorem step_put {H : AH} {s : CS} (hi : Inv H s) {id : Nat} {B0 B : ABlk} {loc : Loc} (h0 : H.bl id = some B0) (hfl : H.floor ≤ id) (hr : s.ρ id = some loc) (w' : World)
    (h1 : w'.os = s.w.os) (h2 : w'.tape = s.w.tape) (h3 : w'.output = s.w.output) (hs : w'.heap.size = s.w.heap.size) (hh : ∀ b, b ≠ loc.blk → w'.heap[b]? = s.w.heap[b]?)
    (hB : (∀ v c, VR s v c → VR { s with w := w' } v c) → BR { s with w := w' } loc B) :
    Step H s { H with bl := upd H.bl id (some B) } { s with w := w' } ∧ ∀ v c, VR s v c → VR { s with w := w' } v c := by
  have hnI : ¬ s.I loc.blk := hi.notI ⟨id, loc, B0, hfl, h0, hr, rfl⟩
  have hv : ∀ v c, VR s v c → VR { s with w := w' } v c := fun v c h => h.mono (s := s) (s' := { s with w := w' }) (fun _ _ h => h) (fun _ h => h) fun b hb => hh b (by rintro rfl; exact hnI hb)
  refine ⟨⟨h1, h2, h3, by simp only [hs]; exact Nat.le_refl _, Nat.le_refl _, fun _ _ => rfl, fun b hb hw => hh b (by rintro rfl; exact hw ⟨id, loc, B0, hfl, h0, hr, rfl⟩), fun _ h => h, fun _ h => .inl h, fun id loc h1 h2 => absurd h1 (Nat.not_le_of_lt h2), rfl, ?_, ?_, ?_⟩, hv⟩
  · intro k hk _; exact upd_ne _ _ (by omega)
  · intro k B' _ hk
    simp only at hk
    rw [upd_eq] at hk; split at hk
    · rename_i e; subst e; exact ⟨B0, h0⟩
    · exact ⟨B', hk⟩
  · refine ⟨hi.fln, fun k l h => by simp only [hs]; exact hi.rlt k l h, fun b h => by simp only [hs]; exact hi.ilt b h, fun k B' h => ?_, fun k B' h => ?_, fun k k' B1 B2 l l' e1 e2 e3 e4 e5 => ?_⟩
    · simp only at h; rw [upd_eq] at h; split at h
      · rename_i e; subst e; exact hi.nlt _ _ h0
      · exact hi.nlt _ _ h
    · simp only at h; rw [upd_eq] at h; split at h
      · rename_i e; subst e; cases h; exact ⟨loc, hr, hnI, hB hv⟩
      · rename_i e
        obtain ⟨l, e1, e2, e3⟩ := hi.blk k B' h
        exact ⟨l, e1, e2, e3.mono hv (hh _ fun e4 => e (hi.inj _ _ _ _ _ _ h h0 e1 hr e4))⟩
    · have live : ∀ k B', upd H.bl id (some B) k = some B' → ∃ B'', H.bl k = some B'' := fun k B' h => by
        rw [upd_eq] at h; split at h
        · rename_i e; subst e; exact ⟨B0, h0⟩
        · exact ⟨B', h⟩
      obtain ⟨B3, e1⟩ := live _ _ e1
      obtain ⟨B4, e2⟩ := live _ _ e2
      exact hi.inj _ _ _ _ _ _ e1 e2 e3 e4 e5

/-- A block that goes on as a new one, in the same real block. -/
def AH.move (H : AH) (id : Nat) (B : ABlk) : AH := { H with nxt := H.nxt + 1, bl := upd (upd H.bl id none) H.nxt (some B) }
theorem step_move {H : AH} {s : CS} (hi : Inv H s) (hf : s.ρ H.nxt = none) {id : Nat} {B0 B : ABlk} {loc loc' : Loc} (h0 : H.bl id = some B0) (hfl : H.floor ≤ id) (hr : s.ρ id = some loc) (hb : loc'.blk = loc.blk) (w' : World)
    (h1 : w'.os = s.w.os) (h2 : w'.tape = s.w.tape) (h3 : w'.output = s.w.output) (hs : w'.heap.size = s.w.heap.size) (hh : ∀ b, b ≠ loc.blk → w'.heap[b]? = s.w.heap[b]?)
    (s' : CS) (hs' : s' = { w := w', ρ := fun k => if k = H.nxt then some loc' else s.ρ k, I := s.I })
    (hB : (∀ v c, VR s v c → VR s' v c) → BR s' loc' B) :
    Step H s (H.move id B) s' ∧ ∀ v c, VR s v c → VR s' v c := by
  have hnI : ¬ s.I loc.blk := hi.notI ⟨id, loc, B0, hfl, h0, hr, rfl⟩
  have hw : s'.w = w' := by rw [hs']
  have hI : s'.I = s.I := by rw [hs']
  have hnew : s'.ρ H.nxt = some loc' := by rw [hs']; simp
  have hold : ∀ k, k ≠ H.nxt → s'.ρ k = s.ρ k := fun k hk => by rw [hs']; simp [hk]
  have hid : id < H.nxt := hi.nlt _ _ h0
  have hv : ∀ v c, VR s v c → VR s' v c := fun v c h => h.mono (s := s) (s' := s')
    (fun k l hk => by rw [hold k (by rintro rfl; rw [hf] at hk; cases hk)]; exact hk) (fun _ h => by rw [hI]; exact h)
    fun b hb => by rw [hw]; exact hh b (by rintro rfl; exact hnI hb)
  have hWr : Wr H s loc.blk := ⟨id, loc, B0, hfl, h0, hr, rfl⟩
  have live : ∀ k B', k ≠ H.nxt → (H.move id B).bl k = some B' → H.bl k = some B' ∧ k ≠ id := fun k B' hk h => by
    simp only [AH.move] at h; rw [upd_ne _ _ hk, upd_eq] at h; split at h
    · cases h
    · exact ⟨h, by assumption⟩
  refine ⟨⟨by rw [hw]; exact h1, by rw [hw]; exact h2, by rw [hw]; exact h3, by rw [hw, hs]; exact Nat.le_refl _, by simp [AH.move], fun k hk => hold k (by simp only [AH.move] at hk; omega), fun b hb hwr => by rw [hw]; exact hh b (by rintro rfl; exact hwr hWr), fun _ h => by rw [hI]; exact h, fun _ h => .inl (by rw [hI] at h; exact h), ?_, rfl, ?_, ?_, ?_⟩, hv⟩
  · intro k l e1 e2 e3
    have : k = H.nxt := by simp only [AH.move] at e2; omega
    subst this
    rw [hnew] at e3; cases e3; rw [hb]; exact .inl hWr
  · intro k hk hk2
    simp only [AH.move]; rw [upd_ne _ _ (by omega), upd_ne _ _ (by omega)]
  · intro k B' hk h
    exact ⟨B', (live k B' (by omega) h).1⟩
  · refine ⟨by have := hi.fln; simp only [AH.move]; omega, fun k l h => ?_, fun b h => by rw [hw, hs]; rw [hI] at h; exact hi.ilt b h, fun k B' h => ?_, fun k B' h => ?_, fun k k' B1 B2 l l' e1 e2 e3 e4 e5 => ?_⟩
    · rw [hw, hs]
      by_cases hx : k = H.nxt
      · subst hx; rw [hnew] at h; cases h; rw [hb]; exact hi.rlt _ _ hr
      · rw [hold k hx] at h; exact hi.rlt _ _ h
    · by_cases hx : k = H.nxt
      · subst hx; simp [AH.move]
      · have := hi.nlt _ _ (live k B' hx h).1; simp only [AH.move]; omega
    · by_cases hx : k = H.nxt
      · subst hx
        simp only [AH.move] at h; rw [upd_same] at h; cases h
        exact ⟨loc', hnew, by rw [hb, hI]; exact hnI, hB hv⟩
      · obtain ⟨h', hne⟩ := live k B' hx h
        obtain ⟨l, e1, e2, e3⟩ := hi.blk k B' h'
        exact ⟨l, by rw [hold k hx]; exact e1, by rw [hI]; exact e2, e3.mono hv (by rw [hw]; exact hh _ fun e4 => hne (hi.inj _ _ _ _ _ _ h' h0 e1 hr e4))⟩
    · by_cases hx : k = H.nxt <;> by_cases hy : k' = H.nxt
      · omega
      · subst hx; rw [hnew] at e3; cases e3
        obtain ⟨h', hne⟩ := live k' B2 hy e2
        rw [hold _ hy] at e4
        exact absurd (hi.inj _ _ _ _ _ _ h' h0 e4 hr (by rw [← e5, hb])) hne
      · subst hy; rw [hnew] at e4; cases e4
        obtain ⟨h', hne⟩ := live k B1 hx e1
        rw [hold _ hx] at e3
        exact absurd (hi.inj _ _ _ _ _ _ h' h0 e3 hr (by rw [e5, hb])) hne
      · rw [hold _ hx] at e3; rw [hold _ hy] at e4
        exact hi.inj _ _ _ _ _ _ (live _ _ hx e1).1 (live _ _ hy e2).1 e3 e4 e5

/-- A row of stores into one block. -/
theorem setCells_world (b : Nat) : ∀ (vs : List Value) (o : Nat) (w : World), (w.setCells b o vs).os = w.os ∧ (w.setCells b o vs).tape = w.tape ∧ (w.setCells b o vs).output = w.output ∧ (w.setCells b o vs).heap.size = w.heap.size ∧
    ∀ k, k ≠ b → (w.setCells b o vs).heap[k]? = w.heap[k]?
  | [], _, _ => ⟨rfl, rfl, rfl, rfl, fun _ _ => rfl⟩
  | v :: r, o, w => by
    obtain ⟨h1, h2, h3, h4, h5⟩ := setCells_world b r (o + 1) (w.setCell ⟨b, o, none⟩ v)
    refine ⟨h1, h2, h3, h4.trans (by simp [World.setCell]), fun k hk => (h5 k hk).trans (RowKit.Below.heap_setCell _ _ _ _ hk)⟩
theorem setCells_block (b : Nat) (T : TypeId) (fr : Nat × Nat) : ∀ (vs : List Value) (o : Nat) (w : World) (c : Array Value), w.heap[b]? = some (.cells c T fr) → o + vs.length ≤ c.size →
    ∃ c' : Array Value, (w.setCells b o vs).heap[b]? = some (.cells c' T fr) ∧ c'.size = c.size ∧ ∀ i, c'[i]? = if o ≤ i ∧ i < o + vs.length then vs[i - o]? else c[i]?
  | [], o, w, c, h, hl => ⟨c, h, rfl, fun i => by rw [if_neg (by simp)]⟩
  | v :: r, o, w, c, h, hl => by
    simp only [List.length_cons] at hl
    have h1 : (w.setCell ⟨b, o, none⟩ v).heap[b]? = some (.cells (c.setIfInBounds o v) T fr) := by
      simp [World.setCell, Array.getElem?_modify, h]
    obtain ⟨c', e1, e2, e3⟩ := setCells_block b T fr r (o + 1) _ _ h1 (by simp; omega)
    refine ⟨c', e1, by rw [e2]; simp, fun i => ?_⟩
    rw [e3 i]
    by_cases hi : o + 1 ≤ i ∧ i < o + 1 + r.length
    · rw [if_pos hi, if_pos (by simp; omega)]
      obtain ⟨k, rfl⟩ : ∃ k, i = o + 1 + k := ⟨i - (o + 1), by omega⟩
      rw [show o + 1 + k - o = k + 1 by omega, show o + 1 + k - (o + 1) = k by omega]; simp
    · rw [if_neg hi]
      by_cases ho : i = o
      · subst ho
        rw [if_pos (by simp)]
        simp [Array.getElem?_setIfInBounds]; omega
      · rw [if_neg (by simp; omega), Array.getElem?_setIfInBounds, if_neg (by omega)]
end Go.Proofs.YtkgghgigjeihjaaGreat.Sim
