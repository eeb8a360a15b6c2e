/- The operations: conversions, min and max, copy, maps, iterators. -/
import Derived.Test.YtkgghgigjeihjaaGreatS7
import Derived.Laws.IdiomStrings
namespace Go.Proofs.YtkgghgigjeihjaaGreat.Sim
set_option linter.unusedVariables false
set_option linter.unusedSimpArgs false
section
variable {P : Program} {Γ : Ctx} {s : CS} {H : AH}

def unA (op : UnOp) (x : AV) : Option AV :=
  match op, x with
  | .neg, .int k n => some (.int k (k.wrap (0 - n)))
  | .xor, .int k n => intA .xor k (if k.signed then -1 else k.max) n
  | .not, .bool b => some (.bool !b)
  | _, _ => none
theorem un_ok {op : UnOp} {x v : AV} {c : Value} (h : unA op x = some v) (hx : VR s x c) (w : World) : ∃ r, (Op.unary op c).run P w = .ok r w ∧ VR s v r := by
  unfold unA at h
  split at h
  · cases h; have := hx.of_int; subst this
    exact ⟨_, rfl, .pv _ _ (.int _ _)⟩
  · have := hx.of_int; subst this
    cases h
    exact ⟨_, rfl, .pv _ _ (.int _ _)⟩
  · cases h; have := hx.of_bool; subst this
    exact ⟨_, rfl, .pv _ _ (.bool _)⟩
  · cases h

def bytesOfA : List AV → Option (List UInt8)
  | [] => some []
  | .int .u8 n :: r => (bytesOfA r).map (UInt8.ofNat n.toNat :: ·)
  | _ => none

/-- A conversion: the value, and a block where one is made. -/
def convA (Γ : Ctx) (src dst : Nat) (x : AV) (H : AH) : Option (AV × AH) :=
  match Γ.ty src, Γ.ty dst with
  | some i, some j => match i.desc, j.desc, x with
    | _, .int k, .int _ n => some (.int k (k.wrap n), H)
    | _, .string, .str b => some (.str b, H)
    | .string, .slice e, .str b => match Γ.ty e with
      | some q => match q.desc with
        | .int .u8 => some (.slc H.nxt 0 b.length 1 none, H.new (.cells (bytesA b)))
        | _ => none
      | none => none
    | .slice e, .string, .lst cells n _ => match Γ.ty e with
      | some q => match q.desc with
        | .int .u8 => match rowA x n 1 H with
          | some l => (bytesOfA l).map fun b => (.str b, H)
          | none => none
        | _ => none
      | none => none
    | .slice e, .string, .slc id off n es cap => match Γ.ty e with
      | some q => match q.desc with
        | .int .u8 => match rowA x n 1 H with
          | some l => (bytesOfA l).map fun b => (.str b, H)
          | none => none
        | _ => none
      | none => none
    | _, _, _ => none
  | _, _ => none

theorem bytesOf_ok : ∀ (l : List AV) (b : List UInt8) (cs : List Value), bytesOfA l = some b → LR s l cs → ∀ (acc : ByteArray) (w : World), ∃ r : ByteArray, (forIn (m := Sem) cs acc fun c r => (match c with
      | .int .u8 n => pure (ForInStep.yield (r.push (UInt8.ofNat n.toNat)))
      | _ => do
        (stuck "bytesToString: byte expected" : Sem PUnit)
        pure (ForInStep.yield r))).run P w = .ok r w ∧ r.data.toList = acc.data.toList ++ b
  | [], b, cs, h, hl, acc, w => by
    cases h
    rw [hl.of_nil]
    exact ⟨acc, rfl, by simp⟩
  | x :: l, b, cs, h, hl, acc, w => by
    obtain ⟨c, cs', rfl, h1, h2⟩ := hl.of_cons
    unfold bytesOfA at h
    split at h
    · rename_i heq; cases heq
    · rename_i n r heq
      cases heq
      simp only [Option.map_eq_some_iff] at h
      obtain ⟨b', hb, rfl⟩ := h
      have := h1.of_int; subst this
      obtain ⟨r, e1, e2⟩ := bytesOf_ok l b' cs' hb h2 (acc.push (UInt8.ofNat n.toNat)) w
      refine ⟨r, ?_, ?_⟩
      · simp only [List.forIn_cons, Sem.run_bind, Sem.run_pure, Result.andThen_ok]
        exact e1
      · rw [e2]; simp
    · cases h
theorem toStr_ok (hi : Inv H s) {x : AV} {c : Value} {n : Nat} {l : List AV} {b : List UInt8} (hx : VR s x c) (hn : (∃ base k, c = .slice base n k)) (hr : rowA x n 1 H = some l) (hb : bytesOfA l = some b) :
    ∃ r, (Conv.bytesToString c).run P s.w = .ok r s.w ∧ VR s (.str b) r := by
  obtain ⟨base, k, rfl⟩ := hn
  obtain ⟨cs, e1, e2, e3⟩ := row_ok (P := P) hi hr hx
  cases base with
  | none =>
    simp only [Builtin.firstCells, Sem.run_pure, Result.ok.injEq, and_true] at e1
    subst e1
    have : l = [] := List.length_eq_zero_iff.1 (by have := e2.1; simpa using this)
    subst this
    cases hb
    exact ⟨_, rfl, .pv _ _ (.str _ _ rfl)⟩
  | some a =>
    simp only [Builtin.firstCells, Nat.mul_one] at e1
    obtain ⟨r, g1, g2⟩ := bytesOf_ok (P := P) l b cs.toList hb e2 ByteArray.empty s.w
    refine ⟨.string r, ?_, .pv _ _ (.str _ _ (by rw [g2]; rfl))⟩
    simp only [Conv.bytesToString, Sem.run_bind, e1, Result.andThen_ok]
    rw [← Array.forIn_toList]
    exact congrArg (fun r : Result ByteArray => r.andThen fun a w' => Result.ok (Value.string a) w') g1
theorem conv_ok (hΓ : Γ.Ok P) (hi : Inv H s) {src dst : Nat} {x v : AV} {c : Value} {H' : AH} (h : convA Γ src dst x H = some (v, H')) (hf : Fresh s H.nxt H'.nxt) (hx : VR s x c) :
    ∃ r s', (convert src dst c).run P s.w = .ok r s'.w ∧ Step H s H' s' ∧ VR s' v r := by
  unfold convA at h
  split at h
  · rename_i i j hti htj
    have hI := hΓ.ty _ i hti
    have hJ := hΓ.ty _ j htj
    generalize hdi : i.desc = D1 at h
    generalize hdj : j.desc = D2 at h
    have rI : ∀ w, (underlying src).run P w = .ok D1 w := fun w => by rw [hI.run_und, hdi]
    have rJ : ∀ w, (underlying dst).run P w = .ok D2 w := fun w => by rw [hJ.run_und, hdj]
    split at h
    · rename_i k k' n
      cases h
      have := hx.of_int; subst this
      exact ⟨.int k (k.wrap n), s, by simp only [convert, Sem.run_bind, rI, rJ, Result.andThen_ok]; cases D1 <;> rfl, Step.refl hi, .pv _ _ (.int _ _)⟩
    · rename_i b
      cases h
      obtain ⟨u, rfl, hu⟩ := hx.of_str
      exact ⟨.string u, s, by simp only [convert, Sem.run_bind, rI, rJ, Result.andThen_ok]; cases D1 <;> rfl, Step.refl hi, hx⟩
    · rename_i e b
      split at h
      · rename_i q hq
        have hQ := hΓ.ty _ q hq
        split at h
        · rename_i hqd
          cases h
          obtain ⟨u, rfl, hu⟩ := hx.of_str
          let s1 : CS := { s with w := s.w.drew }
          obtain ⟨st1, hv1⟩ := step_world hi s.w.drew rfl rfl rfl rfl
          obtain ⟨cap, hcd⟩ : ∃ cap, cap = grownCap s.w u.size 0 e := ⟨_, rfl⟩
          have hcap : u.size ≤ cap := by
            rw [hcd]
            show u.size ≤ u.size + _
            omega
          have hrun := run_bytes_of_string (P := P) s.w src dst e u (by rw [hI.und, hdi]) (by rw [hJ.und, hdj]) (by rw [hQ.und, hqd])
          rw [← hcd] at hrun
          obtain ⟨row, hrd⟩ : ∃ row, row = bytesRow u cap := ⟨_, rfl⟩
          rw [← hrd] at hrun
          have hus : u.data.size = u.size := rfl
          have hrow : row.size = cap := by
            rw [hrd]; unfold bytesRow
            rw [Array.size_append, Array.size_map, Array.size_replicate, hus]; omega
          rw [hrow] at hrun
          have hfr : s1.ρ H.nxt = none := hf _ (Nat.le_refl _) (by simp [AH.new])
          have hlen : b.length = u.size := by rw [← hu]; rfl
          have st2 : Step H s1 (H.new (.cells (bytesA b))) (s1.new H.nxt (.cells row e (cap, cap + 1)) 0 cap) := by
            refine step_new st1.inv hfr _ _ 0 cap ⟨row, e, cap, cap + 1, ?_, ⟨hrow, ?_⟩, .inl (by omega), fun k v hv => ?_⟩
            · show (s1.w.alloc (.cells row e (cap, cap + 1))).heap[s1.w.heap.size]? = _
              exact Array.getElem?_push_size
            · simp only [Nat.zero_add, bytesA, List.length_map]; omega
            · simp only [bytesA, List.getElem?_map, Option.map_eq_some_iff] at hv
              obtain ⟨z, h1, rfl⟩ := hv
              rw [← hu, Array.getElem?_toList] at h1
              obtain ⟨hk, hz⟩ := Array.getElem?_eq_some_iff.1 h1
              refine ⟨.int .u8 z.toNat, ?_, .pv _ _ (.int _ _)⟩
              rw [Nat.zero_add, hrd, bytesRow_at u cap k hk, hz]
          refine ⟨.slice (some ⟨s.w.heap.size, 0, none⟩) u.size cap, _, hrun, st1.trans st2, ?_⟩
          rw [hlen]
          exact VR.slc _ 0 u.size 1 none ⟨s.w.heap.size, 0, cap⟩ 0 cap (by simp [CS.new, s1]) (.inr rfl) hcap (by simp) (fun k hk => by cases hk)
        · cases h
      · cases h
    · rename_i e cells n ex
      split at h
      · rename_i q hq
        have hQ := hΓ.ty _ q hq
        split at h
        · rename_i hqd
          split at h
          · rename_i l hl
            simp only [Option.map_eq_some_iff] at h
            obtain ⟨b, hb, h⟩ := h
            cases h
            have hn : ∃ base k, c = .slice base n k := by
              rcases hx.of_lst with ⟨rfl, rfl, rfl⟩ | ⟨b, o, k, f, rfl, _⟩
              · exact ⟨none, 0, rfl⟩
              · exact ⟨_, k, rfl⟩
            obtain ⟨r, e1, e2⟩ := toStr_ok (P := P) hi hx hn hl hb
            obtain ⟨base, k, rfl⟩ := hn
            refine ⟨r, s, ?_, Step.refl hi, e2⟩
            rw [← e1]
            simp only [convert, Sem.run_bind, rI, rJ, Result.andThen_ok]
            cases base <;> simp only [Sem.run_bind, hQ.run_und, hqd, Result.andThen_ok]
          · cases h
        · cases h
      · cases h
    · rename_i e id off n es cap
      split at h
      · rename_i q hq
        have hQ := hΓ.ty _ q hq
        split at h
        · rename_i hqd
          split at h
          · rename_i l hl
            simp only [Option.map_eq_some_iff] at h
            obtain ⟨b, hb, h⟩ := h
            cases h
            have hn : ∃ base k, c = .slice base n k := by
              obtain ⟨loc, o, k, rfl, _⟩ := hx.of_slc
              exact ⟨_, k, rfl⟩
            obtain ⟨r, e1, e2⟩ := toStr_ok (P := P) hi hx hn hl hb
            obtain ⟨base, k, rfl⟩ := hn
            refine ⟨r, s, ?_, Step.refl hi, e2⟩
            rw [← e1]
            simp only [convert, Sem.run_bind, rI, rJ, Result.andThen_ok]
            cases base <;> simp only [Sem.run_bind, hQ.run_und, hqd, Result.andThen_ok]
          · cases h
        · cases h
      · cases h
    · cases h
  · cases h
end
end Go.Proofs.YtkgghgigjeihjaaGreat.Sim
