/- The operations: slices of slices and strings, append, copy, maps. -/
import Derived.Test.YtkgghgigjeihjaaGreatS3
namespace Go.Proofs.YtkgghgigjeihjaaGreat.Sim
set_option linter.unusedVariables false
set_option linter.unusedSimpArgs false
section
variable {P : Program} {Γ : Ctx} {s : CS} {H : AH}

/-- An optional operand: absent, or there. -/
inductive OV (s : CS) : Option AV → Option Value → Prop where
  | no : OV s none none
  | yes (v : AV) (c : Value) (h : VR s v c) : OV s (some v) (some c)
def opo (t : List AV) : Option Operand → Option (Option AV)
  | none => some none
  | some x => (opv t x).map some
theorem opo_ov {t : List AV} {a : Act} (ht : LR s t a.tmps.toList) {x : Option Operand} {v : Option AV} (h : opo t x = some v) : OV s v (x.map a.eval) := by
  cases x with
  | none => cases h; exact .no
  | some x =>
    simp only [opo, Option.map_eq_some_iff] at h
    obtain ⟨u, h1, rfl⟩ := h
    exact .yes _ _ (opv_vr ht h1)

/-- A bound that is a number from 0 up to y, or what stands for its absence. -/
def bnd (x : Option AV) (y dflt : Nat) : Option Nat :=
  match x with
  | none => some dflt
  | some (.int _ n) => if 0 ≤ n ∧ n ≤ (y : Int) then some n.toNat else none
  | some _ => none
theorem sliceBound_ok {x : AV} {c : Value} {y k : Nat} {d : Nat} (hx : VR s x c) (h : bnd (some x) y d = some k) {y' : Nat} (hy : y ≤ y') (code : BoundsCode) (w : World) :
    (Instr.sliceBound c y' code).run P w = .ok k w ∧ k ≤ y := by
  cases x with
  | int k' n =>
    have := hx.of_int
    subst this
    simp only [bnd] at h
    split at h
    · rename_i hc
      cases h
      refine ⟨?_, by omega⟩
      simp only [Instr.sliceBound, asIntOf, Sem.run_bind, Sem.run_pure, Result.andThen_ok]
      rw [if_pos ⟨hc.1, by omega⟩]; rfl
    · cases h
  | _ => cases h

/-- Both bounds of a slice of a whole of n things, and the third where there is one. -/
def bounds (n : Nat) (lo hi mx : Option AV) : Option (Nat × Nat × Option Nat) :=
  match bnd mx n n with
  | none => none
  | some m => match bnd hi (if mx.isSome then m else n) n with
    | none => none
    | some h => if mx.isSome ∧ hi.isNone then none else match bnd lo h 0 with
      | none => none
      | some l => some (l, h, if mx.isSome then some m else none)
theorem bounds_ok {n : Nat} {lo hi mx : Option AV} {lo' hi' mx' : Option Value} (h1 : OV s lo lo') (h2 : OV s hi hi') (h3 : OV s mx mx') {l h : Nat} {m : Option Nat} (hb : bounds n lo hi mx = some (l, h, m)) (isSlice : Bool) (cap : Nat) (hc : n ≤ cap) (w : World) :
    ∃ m', (Instr.sliceBounds isSlice n cap lo' hi' mx').run P w = .ok (l, h, m') w ∧ l ≤ h ∧ h ≤ n ∧ (∀ k, m = some k → m' = k ∧ h ≤ k ∧ k ≤ n) ∧ (m = none → m' = cap) := by
  unfold bounds at hb
  split at hb
  · cases hb
  · rename_i m0 hm0
    split at hb
    · cases hb
    · rename_i h0 hh0
      split at hb
      · cases hb
      · rename_i hms
        split at hb
        · cases hb
        · rename_i l0 hl0
          cases hb
          have low : (lo' = none ∧ l = 0) ∨ ∃ v, lo' = some v ∧ l ≤ h ∧ ∀ code, (Instr.sliceBound v h code).run P w = .ok l w := by
            cases h1 with
            | no => simp only [bnd, Option.some.injEq] at hl0; exact .inl ⟨rfl, hl0.symm⟩
            | yes v c hv => exact .inr ⟨c, rfl, (sliceBound_ok (P := P) hv hl0 (Nat.le_refl _) .sliceB w).2, fun code => (sliceBound_ok (P := P) hv hl0 (Nat.le_refl _) code w).1⟩
          have lowle : l ≤ h := by
            rcases low with ⟨_, h0⟩ | ⟨_, _, h0, _⟩
            · rw [h0]; exact Nat.zero_le _
            · exact h0
          cases h3 with
          | no =>
            simp only [Option.isSome_none, Bool.false_eq_true, if_false] at *
            cases h2 with
            | no =>
              simp only [bnd, Option.some.injEq] at hh0
              subst hh0
              refine ⟨cap, ?_, lowle, Nat.le_refl _, (fun k hk => by cases hk), fun _ => rfl⟩
              rcases low with ⟨rfl, rfl⟩ | ⟨v, rfl, _, e⟩
              · simp only [Instr.sliceBounds, Sem.run_bind, Sem.run_pure, Result.andThen_ok]
              · simp only [Instr.sliceBounds, Sem.run_bind, Sem.run_pure, Result.andThen_ok, e]
            | yes v c hv =>
              obtain ⟨g1, g2⟩ := sliceBound_ok (P := P) hv hh0 hc (if isSlice then .sliceAcap else .sliceAlen) w
              refine ⟨cap, ?_, lowle, g2, (fun k hk => by cases hk), fun _ => rfl⟩
              rcases low with ⟨rfl, rfl⟩ | ⟨v, rfl, _, e⟩
              · simp only [Instr.sliceBounds, Sem.run_bind, Sem.run_pure, Result.andThen_ok, g1]
              · simp only [Instr.sliceBounds, Sem.run_bind, Sem.run_pure, Result.andThen_ok, g1, e]
          | yes mv mc hmv =>
            simp only [Option.isSome_some, if_true, true_and] at *
            obtain ⟨k1, k2⟩ := sliceBound_ok (P := P) hmv hm0 hc (if isSlice then .slice3Acap else .slice3Alen) w
            cases h2 with
            | no => simp at hms
            | yes v c hv =>
              obtain ⟨g1, g2⟩ := sliceBound_ok (P := P) hv hh0 (Nat.le_refl _) .slice3B w
              refine ⟨m0, ?_, lowle, Nat.le_trans g2 k2, (fun k hk => by cases hk; exact ⟨rfl, g2, k2⟩), (fun hk => by cases hk)⟩
              rcases low with ⟨rfl, rfl⟩ | ⟨v, rfl, _, e⟩
              · simp only [Instr.sliceBounds, Sem.run_bind, Sem.run_pure, Result.andThen_ok, k1, g1]
              · simp only [Instr.sliceBounds, Sem.run_bind, Sem.run_pure, Result.andThen_ok, k1, g1, e]

def capCut (m : Option Nat) (l : Nat) (cap : Option Nat) : Option Nat :=
  match m with
  | some k => some (k - l)
  | none => cap.map (· - l)
def exCut (m : Option Nat) (h n : Nat) (ex : Bool) : Bool :=
  match m with
  | some k => k == h
  | none => ex && h == n
def sliceA (Γ : Ctx) (T : Nat) (x : AV) (lo hi mx : Option AV) : Option AV :=
  match Γ.ty T with
  | none => none
  | some i => match i.desc, x with
    | .string, .str b => match mx, bounds b.length lo hi none with
      | none, some (l, h, _) => some (.str ((b.take h).drop l))
      | _, _ => none
    | .slice e, .slc id off n es cap => match Γ.ty e, bounds n lo hi mx with
      | some j, some (l, h, m) => if es = j.size then
          some (.slc id (off + l * es) (h - l) es (capCut m l cap)) else none
      | _, _ => none
    | .slice e, .lst cells n ex => match Γ.ty e, bounds n lo hi mx with
      | some j, some (l, h, m) => some (.lst ((cells.drop (l * j.size)).take ((h - l) * j.size)) (h - l) (exCut m h n ex))
      | _, _ => none
    | _, _ => none
theorem lst_sub {cells : List AV} {b o : Nat} {f : Nat → Value} (hI : s.I b) (h1 : ∀ (i : Nat) (x : AV), cells[i]? = some x → s.w.cell? ⟨b, o + i, none⟩ = some (f i)) (h2 : ∀ (i : Nat) (x : AV), cells[i]? = some x → PV s x (f i))
    (p q n c : Nat) (e : Bool) (hn : n ≤ c) (he : e = true → c = n) : VR s (.lst ((cells.drop p).take q) n e) (.slice (some ⟨b, o + p, none⟩) n c) := by
  have key : ∀ (i : Nat) (x : AV), ((cells.drop p).take q)[i]? = some x → cells[p + i]? = some x := fun i x hx => by
    rw [List.getElem?_take] at hx
    split at hx
    · rwa [List.getElem?_drop] at hx
    · cases hx
  exact .pv _ _ (.lst _ n e b (o + p) c (fun i => f (p + i)) hI hn he (fun i x hx => by rw [Nat.add_assoc]; exact h1 _ _ (key i x hx)) fun i x hx => h2 _ _ (key i x hx))
theorem slice_ok (hΓ : Γ.Ok P) {T : Nat} {x v : AV} {c : Value} {lo hi mx : Option AV} {lo' hi' mx' : Option Value} (h : sliceA Γ T x lo hi mx = some v) (hx : VR s x c) (h1 : OV s lo lo') (h2 : OV s hi hi') (h3 : OV s mx mx') (w : World) :
    ∃ c', (Instr.sliceAt T c lo' hi' mx').run P w = .ok c' w ∧ VR s v c' := by
  unfold sliceA at h
  split at h
  · cases h
  · rename_i i hti
    have hT := hΓ.ty T i hti
    split at h
    · rename_i b hd
      split at h
      · rename_i l hh m hb
        cases h
        obtain ⟨bs, rfl, rfl⟩ := hx.of_str
        cases h3
        have hlen : bs.size = bs.data.toList.length := rfl
        obtain ⟨m', e1, e2, e3, _⟩ := bounds_ok (P := P) h1 h2 (OV.no (s := s)) hb false bs.size (Nat.le_of_eq hlen.symm) w
        refine ⟨.string (bs.extract l hh), ?_, .pv _ _ (.str _ _ ?_)⟩
        · simp only [Instr.sliceAt, Instr.slice, Sem.run_bind, hT.run_und, hd, Result.andThen_ok, Option.isSome_none, Bool.false_eq_true, if_false]
          rw [← hlen] at e1
          simp only [e1, Result.andThen_ok]; rfl
        · simp [List.drop_take]
      · cases h
    · rename_i e id off n es cap hd
      split at h
      · rename_i j l hh m hj hb
        split at h
        · rename_i hes
          cases h
          obtain ⟨loc, o, k, rfl, hr, ho, hl, hcap, hk⟩ := hx.of_slc
          obtain ⟨m', e1, e2, e3, e4, e5⟩ := bounds_ok (P := P) h1 h2 h3 hb true k hl w
          have hJ := hΓ.ty _ j hj
          have hm' : hh ≤ m' ∧ m' ≤ k := by
            cases m with
            | none => rw [e5 rfl]; omega
            | some q => obtain ⟨rfl, a1, a2⟩ := e4 q rfl; omega
          refine ⟨.slice (if m' = l then some ⟨loc.blk, o, none⟩ else some ⟨loc.blk, o + l * j.size, none⟩) (hh - l) (m' - l), ?_, ?_⟩
          · simp only [Instr.sliceAt, Instr.slice, Sem.run_bind, hT.run_und, hd, Result.andThen_ok, e1, hJ.run_size, Option.map_some, add_at]; rfl
          · have hmul : (m' - l) * es + l * es ≤ k * es := by rw [← Nat.add_mul]; exact Nat.mul_le_mul_right _ (by omega)
            have hcapm : ∀ q, capCut m l cap = some q → m' - l = q := fun q hq => by
              cases m with
              | none =>
                simp only [capCut, Option.map_eq_some_iff] at hq
                obtain ⟨q', g1, rfl⟩ := hq
                rw [e5 rfl, hk q' g1]
              | some q' => cases hq; rw [(e4 q' rfl).1]
            have hoff : loc.off + (off + l * es) + (m' - l) * es ≤ loc.size := by omega
            split
            · rename_i e0
              exact .slc _ _ _ _ _ loc o _ hr (.inl (by omega)) (by omega) hoff hcapm
            · rename_i e0
              refine .slc _ _ _ _ _ loc _ _ hr ?_ (by omega) hoff hcapm
              rcases ho with ho | ho
              · omega
              · right; rw [ho, hes, Nat.add_assoc]
        · cases h
      · cases h
    · rename_i e cells n ex hd
      split at h
      · rename_i j l hh m hj hb
        cases h
        have hJ := hΓ.ty _ j hj
        rcases hx.of_lst with ⟨rfl, rfl, rfl⟩ | ⟨b, o, k, f, rfl, hI, hn, he, g1, g2⟩
        · obtain ⟨m', e1, e2, e3, e4, e5⟩ := bounds_ok (P := P) h1 h2 h3 hb true 0 (Nat.le_refl _) w
          have hm' : m' = 0 := by
            cases m with
            | none => exact e5 rfl
            | some q => obtain ⟨rfl, a1, a2⟩ := e4 q rfl; omega
          refine ⟨.slice none 0 0, ?_, ?_⟩
          · simp only [Instr.sliceAt, Instr.slice, Sem.run_bind, hT.run_und, hd, Result.andThen_ok, e1, hJ.run_size, Option.map_none, ite_self]
            have a1 : hh - l = 0 := by omega
            have a2 : m' - l = 0 := by omega
            rw [a1, a2]; rfl
          · have a1 : hh - l = 0 := by omega
            rw [a1]; simp only [List.drop_nil, List.take_nil]
            exact .pv _ _ (.lst0 _)
        · obtain ⟨m', e1, e2, e3, e4, e5⟩ := bounds_ok (P := P) h1 h2 h3 hb true k hn w
          have hm' : hh ≤ m' ∧ m' ≤ k := by
            cases m with
            | none => rw [e5 rfl]; omega
            | some q => obtain ⟨rfl, a1, a2⟩ := e4 q rfl; omega
          have hex : exCut m hh n ex = true → m' - l = hh - l := fun hq => by
            cases m with
            | none =>
              simp only [exCut, Bool.and_eq_true, beq_iff_eq] at hq
              rw [e5 rfl, he hq.1, hq.2]
            | some q => simp only [exCut, beq_iff_eq] at hq; rw [(e4 q rfl).1, hq]
          refine ⟨.slice (if m' = l then some ⟨b, o, none⟩ else some ⟨b, o + l * j.size, none⟩) (hh - l) (m' - l), ?_, ?_⟩
          · simp only [Instr.sliceAt, Instr.slice, Sem.run_bind, hT.run_und, hd, Result.andThen_ok, e1, hJ.run_size, Option.map_some, add_at]; rfl
          · split
            · have a1 : hh - l = 0 := by omega
              rw [a1] at hex ⊢
              rw [Nat.zero_mul, List.take_zero]
              exact .pv _ _ (.lst _ 0 _ b o _ f hI (by omega) hex (fun i x hx => by cases hx) fun i x hx => by cases hx)
            · exact lst_sub hI g1 g2 _ _ _ _ _ (by omega) hex
      · cases h
    · cases h

def lenA (Γ : Ctx) (T : Nat) (x : AV) (H : AH) : Option AV :=
  match Γ.ty T with
  | none => none
  | some i => match i.desc, x with
    | .string, .str b => some (.int .i64 b.length)
    | .array n _, _ => some (.int .i64 n)
    | .slice _, .slc _ _ n _ _ => some (.int .i64 n)
    | .slice _, .lst _ n _ => some (.int .i64 n)
    | .map _ _, .map none => some (.int .i64 0)
    | .map _ _, .map (some id) => match H.bl id with
      | some (.map es) => some (.int .i64 es.length)
      | _ => none
    | _, _ => none
theorem VR.of_map {id : Nat} {c : Value} (h : VR s (.map (some id)) c) : ∃ loc, c = .map (some loc.blk) ∧ s.ρ id = some loc := by
  cases h with
  | pv _ _ h => cases h
  | map _ loc h => exact ⟨loc, rfl, h⟩
theorem VR.of_map0 {c : Value} (h : VR s (.map none) c) : c = .map none := by
  cases h with
  | pv _ _ h => cases h; rfl
theorem run_getObj_map (w : World) (r : Nat) (es : Array MapEntry) (k : Nat) (h : w.heap[r]? = some (.map es k)) : (getObj r).run P w = .ok (.map es k) w := by
  simp [getObj, Sem.run, h]
theorem len_ok (hΓ : Γ.Ok P) (hi : Inv H s) {T : Nat} {x v : AV} {c : Value} {ty : TypeId} {ats : Array TypeId} (h0 : ats[0]? = some T) (h : lenA Γ T x H = some v) (hx : VR s x c) : ∃ c', (Builtin.len_ ats ty #[c]).run P s.w = .ok c' s.w ∧ VR s v c' := by
  unfold lenA at h
  split at h
  · cases h
  · rename_i i hti
    have hT := hΓ.ty T i hti
    have h1 : (#[c] : Array Value)[0]? = some c := rfl
    split at h
    · rename_i b hd
      cases h
      obtain ⟨bs, rfl, rfl⟩ := hx.of_str
      exact ⟨_, by simp only [Builtin.len_, h0, h1, Sem.run_bind, hT.run_und, hd, Result.andThen_ok]; rfl, .pv _ _ (.int _ _)⟩
    · rename_i n e hd
      cases h
      refine ⟨.int .i64 n, ?_, .pv _ _ (.int _ _)⟩
      simp only [Builtin.len_, h0, h1, Sem.run_bind, hT.run_und, hd, Result.andThen_ok]; rfl
    · rename_i e id off n es cap hd
      cases h
      obtain ⟨loc, o, k, rfl, _⟩ := hx.of_slc
      exact ⟨.int .i64 n, by simp only [Builtin.len_, h0, h1, Sem.run_bind, hT.run_und, hd, Result.andThen_ok]; rfl, .pv _ _ (.int _ _)⟩
    · rename_i e cells n ex hd
      cases h
      rcases hx.of_lst with ⟨rfl, rfl, rfl⟩ | ⟨b, o, k, f, rfl, _⟩
      · exact ⟨.int .i64 0, by simp only [Builtin.len_, h0, h1, Sem.run_bind, hT.run_und, hd, Result.andThen_ok]; rfl, .pv _ _ (.int _ _)⟩
      · exact ⟨.int .i64 n, by simp only [Builtin.len_, h0, h1, Sem.run_bind, hT.run_und, hd, Result.andThen_ok]; rfl, .pv _ _ (.int _ _)⟩
    · rename_i k e hd
      cases h
      have := hx.of_map0
      subst this
      exact ⟨.int .i64 0, by simp only [Builtin.len_, h0, h1, Sem.run_bind, hT.run_und, hd, Result.andThen_ok]; rfl, .pv _ _ (.int _ _)⟩
    · rename_i k e id hd
      split at h
      · rename_i es hbl
        cases h
        obtain ⟨loc, rfl, hr⟩ := hx.of_map
        obtain ⟨loc', g1, _, _, ces, clock, g2, g3, _⟩ := hi.blk _ _ hbl
        rw [hr] at g1; cases g1
        refine ⟨.int .i64 es.length, ?_, .pv _ _ (.int _ _)⟩
        simp only [Builtin.len_, h0, h1, Sem.run_bind, hT.run_und, hd, Result.andThen_ok, run_getObj_map _ _ _ _ g2, g3]; rfl
      · cases h
    · cases h
end
end Go.Proofs.YtkgghgigjeihjaaGreat.Sim
