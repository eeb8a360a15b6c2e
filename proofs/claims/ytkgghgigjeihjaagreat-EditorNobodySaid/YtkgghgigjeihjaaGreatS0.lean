/- A small interpreter of the model's code over data without addresses of the real memory: values, memory, and what it means that they stand for the model's. No program in it. -/
import Derived.Orders
import Derived.Defers
import Derived.Below
import Derived.Laws.Append
import Derived.Laws.Cells
import Derived.Laws.CopyRow
namespace Go.Proofs.YtkgghgigjeihjaaGreat.Sim
set_option linter.unusedVariables false
set_option linter.unusedSimpArgs false

/-- A value: 'slc' is a slice of a block of this memory, 'lst' one whose cells never change, 'cptr' an address into such cells; 'nils' is nil for sure, 'nnl' is a 'lst' that surely is not. -/
inductive AV where
  | bool (b : Bool)
  | int (k : IntKind) (n : Int)
  | str (s : List UInt8)
  | ptr (a : Option (Nat × Nat))
  | cptr (cells : List AV)
  | slc (id off len es : Nat) (cap : Option Nat)
  | lst (cells : List AV) (n : Nat) (exact : Bool)
  | nils
  | nnl (cells : List AV) (n : Nat) (exact : Bool)
  | map (r : Option Nat)
  | fn (f : Fn) (first captured : List AV)
  | nilFn
  | agg (cells : List AV)
  | tup (vs : List AV)
instance : Inhabited AV := ⟨.tup []⟩
/-- A slice, whether nil or not. -/
def AV.sl : AV → AV
  | .nils => .lst [] 0 true
  | .nnl l n e => .lst l n e
  | v => v

inductive ABlk where
  | cells (vs : List AV)
  | map (es : List (AV × AV))
  | iter (s : List UInt8) (pos : Nat)

structure AH where
  nxt : Nat
  floor : Nat
  bl : Nat → Option ABlk

def upd (f : Nat → Option ABlk) (id : Nat) (b : Option ABlk) : Nat → Option ABlk := fun k => bif Nat.beq k id then b else f k
theorem upd_same (f : Nat → Option ABlk) (id : Nat) (b : Option ABlk) : upd f id b id = b := by simp [upd]
theorem upd_ne (f : Nat → Option ABlk) {id k : Nat} (b : Option ABlk) (h : k ≠ id) : upd f id b k = f k := by
  have : Nat.beq k id = false := by
    cases hb : Nat.beq k id with
    | false => rfl
    | true => exact absurd (Nat.eq_of_beq_eq_true hb) h
  simp [upd, this]
theorem upd_eq (f : Nat → Option ABlk) (id : Nat) (b : Option ABlk) (k : Nat) : upd f id b k = if k = id then b else f k := by
  by_cases h : k = id
  · subst h; rw [upd_same, if_pos rfl]
  · rw [upd_ne _ _ h, if_neg h]

def AH.new (H : AH) (b : ABlk) : AH := { H with nxt := H.nxt + 1, bl := upd H.bl H.nxt (some b) }
def AH.put (H : AH) (id : Nat) (b : ABlk) : Option AH :=
  match H.bl id with
  | some _ => if H.floor ≤ id then some { H with bl := upd H.bl id (some b) } else none
  | none => none

structure Loc where
  blk : Nat
  off : Nat
  size : Nat

/-- Where the real memory stands: the world, where each block lies, and which real blocks never change any more. -/
structure CS where
  w : World
  ρ : Nat → Option Loc
  I : Nat → Prop

/-- Values without addresses of blocks that may change. -/
inductive PV (s : CS) : AV → Value → Prop where
  | bool (b : Bool) : PV s (.bool b) (.bool b)
  | int (k : IntKind) (n : Int) : PV s (.int k n) (.int k n)
  | str (l : List UInt8) (b : ByteArray) (h : b.data.toList = l) : PV s (.str l) (.string b)
  | ptr0 : PV s (.ptr none) (.pointer none)
  | lst0 (e : Bool) : PV s (.lst [] 0 e) (.slice none 0 0)
  | lst (cells : List AV) (n : Nat) (e : Bool) (b o c : Nat) (f : Nat → Value) (hI : s.I b) (hn : n ≤ c) (he : e = true → c = n)
      (hc : ∀ (i : Nat) (x : AV), cells[i]? = some x → s.w.cell? ⟨b, o + i, none⟩ = some (f i)) (hv : ∀ (i : Nat) (x : AV), cells[i]? = some x → PV s x (f i)) :
      PV s (.lst cells n e) (.slice (some ⟨b, o, none⟩) n c)
  | nils : PV s .nils (.slice none 0 0)
  | nnl (cells : List AV) (n : Nat) (e : Bool) (b o c : Nat) (f : Nat → Value) (hI : s.I b) (hn : n ≤ c) (he : e = true → c = n)
      (hc : ∀ (i : Nat) (x : AV), cells[i]? = some x → s.w.cell? ⟨b, o + i, none⟩ = some (f i)) (hv : ∀ (i : Nat) (x : AV), cells[i]? = some x → PV s x (f i)) :
      PV s (.nnl cells n e) (.slice (some ⟨b, o, none⟩) n c)
  | map0 : PV s (.map none) (.map none)
  | fn0 (g : Fn) : PV s (.fn g [] []) (.func g #[] #[])
  | nilFn : PV s .nilFn .nilFunc

inductive VR (s : CS) : AV → Value → Prop where
  | pv (v : AV) (c : Value) (h : PV s v c) : VR s v c
  | ptr (id off : Nat) (loc : Loc) (h : s.ρ id = some loc) : VR s (.ptr (some (id, off))) (.pointer (some ⟨loc.blk, loc.off + off, none⟩))
  | cptr (cells : List AV) (b o : Nat) (f : Nat → Value) (hI : s.I b) (hc : ∀ (i : Nat) (x : AV), cells[i]? = some x → s.w.cell? ⟨b, o + i, none⟩ = some (f i)) (hv : ∀ (i : Nat) (x : AV), cells[i]? = some x → PV s x (f i)) :
      VR s (.cptr cells) (.pointer (some ⟨b, o, none⟩))
  | slc (id off len es : Nat) (cap : Option Nat) (loc : Loc) (o c : Nat) (h : s.ρ id = some loc) (ho : c = 0 ∨ o = loc.off + off) (hl : len ≤ c) (hc : loc.off + off + c * es ≤ loc.size) (hk : ∀ k, cap = some k → c = k) :
      VR s (.slc id off len es cap) (.slice (some ⟨loc.blk, o, none⟩) len c)
  | map (id : Nat) (loc : Loc) (h : s.ρ id = some loc) : VR s (.map (some id)) (.map (some loc.blk))
  | fn (g : Fn) (a b : List AV) (a' b' : Array Value) (ha : a.length = a'.size) (hb : b.length = b'.size)
      (h1 : ∀ (i : Nat) (x : AV) (c : Value), a[i]? = some x → a'[i]? = some c → VR s x c) (h2 : ∀ (i : Nat) (x : AV) (c : Value), b[i]? = some x → b'[i]? = some c → VR s x c) : VR s (.fn g a b) (.func g a' b')
  | agg (l : List AV) (cs : Array Value) (hl : l.length = cs.size) (h : ∀ (i : Nat) (x : AV) (c : Value), l[i]? = some x → cs[i]? = some c → VR s x c) : VR s (.agg l) (.agg cs)
  | tup (l : List AV) (cs : Array Value) (hl : l.length = cs.size) (h : ∀ (i : Nat) (x : AV) (c : Value), l[i]? = some x → cs[i]? = some c → VR s x c) : VR s (.tup l) (.tuple cs)

theorem VR.sl {s : CS} {v : AV} {c : Value} (h : VR s v c) : VR s v.sl c := by
  cases h with
  | pv v c h =>
    cases h with
    | nils => exact .pv _ _ (.lst0 true)
    | nnl cells n e b o c f hI hn he hc hv => exact .pv _ _ (.lst cells n e b o c f hI hn he hc hv)
    | bool b => exact .pv _ _ (.bool b)
    | int k n => exact .pv _ _ (.int k n)
    | str l b h => exact .pv _ _ (.str l b h)
    | ptr0 => exact .pv _ _ .ptr0
    | lst0 e => exact .pv _ _ (.lst0 e)
    | lst cells n e b o c f hI hn he hc hv => exact .pv _ _ (.lst cells n e b o c f hI hn he hc hv)
    | map0 => exact .pv _ _ .map0
    | fn0 g => exact .pv _ _ (.fn0 g)
    | nilFn => exact .pv _ _ .nilFn
  | ptr id off loc h => exact .ptr id off loc h
  | cptr cells b o f hI hc hv => exact .cptr cells b o f hI hc hv
  | slc id off len es cap loc o c h ho hl hc hk => exact .slc id off len es cap loc o c h ho hl hc hk
  | map id loc h => exact .map id loc h
  | fn g a b a' b' ha hb h1 h2 => exact .fn g a b a' b' ha hb h1 h2
  | agg l cs hl h => exact .agg l cs hl h
  | tup l cs hl h => exact .tup l cs hl h

/-- Lists of values, one by one. -/
def LR (s : CS) (l : List AV) (cs : List Value) : Prop := l.length = cs.length ∧ ∀ (i : Nat) (x : AV) (c : Value), l[i]? = some x → cs[i]? = some c → VR s x c

theorem PV.mono {s s' : CS} (hi : ∀ b, s.I b → s'.I b) (hw : ∀ b, s.I b → s'.w.heap[b]? = s.w.heap[b]?) {v : AV} {c : Value} (h : PV s v c) : PV s' v c := by
  have hcell : ∀ b o, s.I b → s'.w.cell? ⟨b, o, none⟩ = s.w.cell? ⟨b, o, none⟩ := fun b o hb => World.cell?_of_block (w := s.w) (hw b hb)
  induction h with
  | bool b => exact .bool b
  | int k n => exact .int k n
  | str l b h => exact .str l b h
  | ptr0 => exact .ptr0
  | lst0 e => exact .lst0 e
  | lst cells n e b o c f hI hn he hc _ ih => exact .lst cells n e b o c f (hi _ hI) hn he (fun i x hx => (hcell _ _ hI).trans (hc i x hx)) ih
  | nils => exact .nils
  | nnl cells n e b o c f hI hn he hc _ ih => exact .nnl cells n e b o c f (hi _ hI) hn he (fun i x hx => (hcell _ _ hI).trans (hc i x hx)) ih
  | map0 => exact .map0
  | fn0 g => exact .fn0 g
  | nilFn => exact .nilFn

theorem VR.mono {s s' : CS} (hr : ∀ id loc, s.ρ id = some loc → s'.ρ id = some loc) (hi : ∀ b, s.I b → s'.I b) (hw : ∀ b, s.I b → s'.w.heap[b]? = s.w.heap[b]?)
    {v : AV} {c : Value} (h : VR s v c) : VR s' v c := by
  have hcell : ∀ b o, s.I b → s'.w.cell? ⟨b, o, none⟩ = s.w.cell? ⟨b, o, none⟩ := fun b o hb => World.cell?_of_block (w := s.w) (hw b hb)
  induction h with
  | pv v c h => exact .pv v c (h.mono hi hw)
  | ptr id off loc h => exact .ptr id off loc (hr _ _ h)
  | cptr cells b o f hI hc hv => exact .cptr cells b o f (hi _ hI) (fun i x hx => (hcell _ _ hI).trans (hc i x hx)) (fun i x hx => (hv i x hx).mono hi hw)
  | slc id off len es cap loc o c h ho hl hc hk => exact .slc id off len es cap loc o c (hr _ _ h) ho hl hc hk
  | map id loc h => exact .map id loc (hr _ _ h)
  | fn g a b a' b' ha hb _ _ i1 i2 => exact .fn g a b a' b' ha hb i1 i2
  | agg l cs hl _ ih => exact .agg l cs hl ih
  | tup l cs hl _ ih => exact .tup l cs hl ih

/-- What a block stands for. -/
def BR (s : CS) (loc : Loc) : ABlk → Prop
  | .cells vs => ∃ (c : Array Value) (T : TypeId) (lo hi : Nat), s.w.heap[loc.blk]? = some (.cells c T (lo, hi)) ∧ (c.size = loc.size ∧ loc.off + vs.length ≤ c.size) ∧ (c.size ≤ lo ∨ hi ≤ lo) ∧
      ∀ (i : Nat) (x : AV), vs[i]? = some x → ∃ cv, c[loc.off + i]? = some cv ∧ VR s x cv
  | .map es => loc.off = 0 ∧ ∃ (ces : Array MapEntry) (clock : Nat), s.w.heap[loc.blk]? = some (.map ces clock) ∧ ces.size = es.length ∧
      ∀ (i : Nat) (k v : AV), es[i]? = some (k, v) → ∃ e, ces[i]? = some e ∧ VR s k e.key ∧ VR s v e.val
  | .iter b pos => loc.off = 0 ∧ ∃ bs : ByteArray, s.w.heap[loc.blk]? = some (.stringIter bs pos) ∧ bs.data.toList = b

theorem BR.mono {s s' : CS} {loc : Loc} {B : ABlk} (hv : ∀ v c, VR s v c → VR s' v c) (hb : s'.w.heap[loc.blk]? = s.w.heap[loc.blk]?) (h : BR s loc B) : BR s' loc B := by
  cases B with
  | cells vs =>
    obtain ⟨c, T, lo, hi, h1, h2, h3, h4⟩ := h
    exact ⟨c, T, lo, hi, hb.trans h1, h2, h3, fun i x hx => let ⟨cv, e, r⟩ := h4 i x hx; ⟨cv, e, hv _ _ r⟩⟩
  | map es =>
    obtain ⟨h0, ces, clock, h1, h2, h3⟩ := h
    exact ⟨h0, ces, clock, hb.trans h1, h2, fun i k v hx => let ⟨e, e1, r1, r2⟩ := h3 i k v hx; ⟨e, e1, hv _ _ r1, hv _ _ r2⟩⟩
  | iter b pos =>
    obtain ⟨h0, bs, h1, h2⟩ := h
    exact ⟨h0, bs, hb.trans h1, h2⟩

structure Inv (H : AH) (s : CS) : Prop where
  fln : H.floor ≤ H.nxt
  rlt : ∀ id loc, s.ρ id = some loc → loc.blk < s.w.heap.size
  ilt : ∀ b, s.I b → b < s.w.heap.size
  nlt : ∀ id B, H.bl id = some B → id < H.nxt
  blk : ∀ id B, H.bl id = some B → ∃ loc, s.ρ id = some loc ∧ ¬ s.I loc.blk ∧ BR s loc B
  inj : ∀ id id' B B' loc loc', H.bl id = some B → H.bl id' = some B' → s.ρ id = some loc → s.ρ id' = some loc' → loc.blk = loc'.blk → id = id'

/-- The real blocks that may be written. -/
def Wr (H : AH) (s : CS) (b : Nat) : Prop := ∃ id loc B, H.floor ≤ id ∧ H.bl id = some B ∧ s.ρ id = some loc ∧ loc.blk = b
def Fresh (s : CS) (a b : Nat) : Prop := ∀ id, a ≤ id → id < b → s.ρ id = none

structure Step (H : AH) (s : CS) (H' : AH) (s' : CS) : Prop where
  os : s'.w.os = s.w.os
  tape : s'.w.tape = s.w.tape
  output : s'.w.output = s.w.output
  hs : s.w.heap.size ≤ s'.w.heap.size
  nx : H.nxt ≤ H'.nxt
  rho : ∀ id, id < H.nxt ∨ H'.nxt ≤ id → s'.ρ id = s.ρ id
  frame : ∀ b, b < s.w.heap.size → ¬ Wr H s b → s'.w.heap[b]? = s.w.heap[b]?
  imono : ∀ b, s.I b → s'.I b
  inew : ∀ b, s'.I b → s.I b ∨ Wr H s b ∨ s.w.heap.size ≤ b
  rnew : ∀ id loc, H.nxt ≤ id → id < H'.nxt → s'.ρ id = some loc → Wr H s loc.blk ∨ s.w.heap.size ≤ loc.blk
  fl : H'.floor = H.floor
  old : ∀ id, id < H.floor → id < H.nxt → H'.bl id = H.bl id
  liv : ∀ id B, id < H.nxt → H'.bl id = some B → ∃ B0, H.bl id = some B0
  inv : Inv H' s'

theorem Inv.notI {H : AH} {s : CS} (hi : Inv H s) {b : Nat} (h : Wr H s b) : ¬ s.I b := by
  obtain ⟨id, loc, B, _, hB, hr, rfl⟩ := h
  obtain ⟨loc', hr', hn, _⟩ := hi.blk id B hB
  rw [hr] at hr'; cases hr'; exact hn

theorem Step.ro {H H' : AH} {s s' : CS} (st : Step H s H' s') (hf : Fresh s H.nxt H'.nxt) {id : Nat} {loc : Loc} (h : s.ρ id = some loc) : s'.ρ id = some loc := by
  by_cases hx : id < H.nxt ∨ H'.nxt ≤ id
  · rw [st.rho id hx, h]
  · have := hf id (by omega) (by omega)
    rw [h] at this; cases this

theorem Step.vr {H H' : AH} {s s' : CS} (st : Step H s H' s') (hi : Inv H s) (hf : Fresh s H.nxt H'.nxt) {v : AV} {c : Value} (h : VR s v c) : VR s' v c :=
  h.mono (fun id loc hr => st.ro hf hr) st.imono fun b hb => st.frame b (hi.ilt b hb) fun hw => hi.notI hw hb

theorem Step.wr {H H' : AH} {s s' : CS} (st : Step H s H' s') {b : Nat} (h : Wr H' s' b) : Wr H s b ∨ s.w.heap.size ≤ b := by
  obtain ⟨id, loc, B, hfl, hB, hr, rfl⟩ := h
  rw [st.fl] at hfl
  by_cases hx : id < H.nxt
  · obtain ⟨B0, h0⟩ := st.liv id B hx hB
    rw [st.rho id (.inl hx)] at hr
    exact .inl ⟨id, loc, B0, hfl, h0, hr, rfl⟩
  · exact st.rnew id loc (by omega) (st.inv.nlt id B hB) hr

theorem Step.refl {H : AH} {s : CS} (hi : Inv H s) : Step H s H s :=
  ⟨rfl, rfl, rfl, Nat.le_refl _, Nat.le_refl _, fun _ _ => rfl, fun _ _ _ => rfl, fun _ h => h, fun _ h => .inl h, fun id loc h1 h2 => absurd h1 (by omega), rfl, fun _ _ _ => rfl, fun id B _ h => ⟨B, h⟩, hi⟩

theorem Step.trans {H H' H'' : AH} {s s' s'' : CS} (a : Step H s H' s') (b : Step H' s' H'' s'') : Step H s H'' s'' where
  os := b.os.trans a.os
  tape := b.tape.trans a.tape
  output := b.output.trans a.output
  hs := Nat.le_trans a.hs b.hs
  nx := Nat.le_trans a.nx b.nx
  rho id h := by
    have h1 := a.nx; have h2 := b.nx
    rw [b.rho id (by omega), a.rho id (by omega)]
  frame k hk hw := by
    rw [b.frame k (Nat.lt_of_lt_of_le hk a.hs) (fun h => (a.wr h).elim hw (by omega)), a.frame k hk hw]
  imono k h := b.imono k (a.imono k h)
  inew k h := by
    have := a.hs
    rcases b.inew k h with h | h | h
    · exact a.inew k h
    · exact (a.wr h).elim (fun h => .inr (.inl h)) fun h => .inr (.inr h)
    · exact .inr (.inr (by omega))
  rnew id loc h1 h2 hr := by
    have h3 := b.nx
    by_cases hx : id < H'.nxt
    · rw [b.rho id (.inl hx)] at hr
      exact a.rnew id loc h1 hx hr
    · have := a.hs
      rcases b.rnew id loc (by omega) h2 hr with h | h
      · exact a.wr h
      · exact .inr (by omega)
  fl := b.fl.trans a.fl
  old id h1 h2 := (b.old id (by rw [a.fl]; exact h1) (Nat.lt_of_lt_of_le h2 a.nx)).trans (a.old id h1 h2)
  liv id B h1 h2 := by
    obtain ⟨B1, h3⟩ := b.liv id B (Nat.lt_of_lt_of_le h1 a.nx) h2
    exact a.liv id B1 h1 h3
  inv := b.inv

theorem Fresh.sub {s : CS} {a b c d : Nat} (h : Fresh s a b) (h1 : a ≤ c) (h2 : d ≤ b) : Fresh s c d := fun id h3 h4 => h id (by omega) (by omega)
theorem Step.fresh {H H' : AH} {s s' : CS} {b : Nat} (st : Step H s H' s') (hf : Fresh s H.nxt b) : Fresh s' H'.nxt b := fun id h1 h2 => by
  have := st.nx
  rw [st.rho id (.inr h1)]; exact hf id (by omega) h2

/-- The first part's worlds were one another's, so what comes behind the second is behind the first. -/
theorem LR.mono {s s' : CS} (h : ∀ v c, VR s v c → VR s' v c) {l : List AV} {cs : List Value} (hl : LR s l cs) : LR s' l cs :=
  ⟨hl.1, fun i x c h1 h2 => h _ _ (hl.2 i x c h1 h2)⟩
theorem LR.nil {s : CS} : LR s [] [] := ⟨rfl, fun i x c h => by simp at h⟩
theorem LR.cons {s : CS} {x : AV} {l : List AV} {c : Value} {cs : List Value} (h : VR s x c) (hl : LR s l cs) : LR s (x :: l) (c :: cs) := by
  refine ⟨by simp [hl.1], fun i y d h1 h2 => ?_⟩
  cases i with
  | zero => simp at h1 h2; subst h1; subst h2; exact h
  | succ i => simp at h1 h2; exact hl.2 i y d h1 h2
theorem LR.of_cons {s : CS} {x : AV} {l : List AV} {cs : List Value} (h : LR s (x :: l) cs) : ∃ c cs', cs = c :: cs' ∧ VR s x c ∧ LR s l cs' := by
  obtain ⟨h1, h2⟩ := h
  cases cs with
  | nil => simp at h1
  | cons c cs => exact ⟨c, cs, rfl, h2 0 _ _ rfl rfl, by simpa using h1, fun i y d h3 h4 => h2 (i + 1) y d (by simpa using h3) (by simpa using h4)⟩
theorem LR.of_nil {s : CS} {cs : List Value} (h : LR s [] cs) : cs = [] := by
  have := h.1; cases cs <;> simp_all
theorem LR.get {s : CS} {l : List AV} {cs : List Value} (h : LR s l cs) {i : Nat} {x : AV} (hx : l[i]? = some x) : ∃ c, cs[i]? = some c ∧ VR s x c := by
  have hi : i < cs.length := by rw [← h.1]; exact (List.getElem?_eq_some_iff.1 hx).1
  exact ⟨cs[i], List.getElem?_eq_getElem hi, h.2 i x _ hx (List.getElem?_eq_getElem hi)⟩
theorem LR.get' {s : CS} {l : List AV} {cs : List Value} (h : LR s l cs) {i : Nat} {c : Value} (hx : cs[i]? = some c) : ∃ x, l[i]? = some x ∧ VR s x c := by
  have hi : i < l.length := by rw [h.1]; exact (List.getElem?_eq_some_iff.1 hx).1
  exact ⟨l[i], List.getElem?_eq_getElem hi, h.2 i _ c (List.getElem?_eq_getElem hi) hx⟩
theorem LR.append {s : CS} {a b : List AV} {x y : List Value} (h : LR s a x) (k : LR s b y) : LR s (a ++ b) (x ++ y) := by
  refine ⟨by simp [h.1, k.1], fun i v c h1 h2 => ?_⟩
  rw [List.getElem?_append] at h1 h2
  rw [← h.1] at h2
  split at h1
  · rename_i hlt; rw [if_pos hlt] at h2; exact h.2 i v c h1 h2
  · rename_i hlt; rw [if_neg hlt] at h2; exact k.2 _ v c h1 h2
theorem LR.take {s : CS} {a : List AV} {x : List Value} (h : LR s a x) (n : Nat) : LR s (a.take n) (x.take n) := by
  refine ⟨by simp [h.1], fun i v c h1 h2 => ?_⟩
  rw [List.getElem?_take] at h1 h2
  split at h1
  · rename_i hlt; rw [if_pos hlt] at h2; exact h.2 i v c h1 h2
  · cases h1
theorem LR.drop {s : CS} {a : List AV} {x : List Value} (h : LR s a x) (n : Nat) : LR s (a.drop n) (x.drop n) := by
  refine ⟨by simp [h.1], fun i v c h1 h2 => ?_⟩
  rw [List.getElem?_drop] at h1 h2
  exact h.2 _ v c h1 h2
theorem LR.set {s : CS} {a : List AV} {x : List Value} (h : LR s a x) (n : Nat) {v : AV} {c : Value} (hv : VR s v c) : LR s (a.set n v) (x.set n c) := by
  refine ⟨by simp [h.1], fun i u d h1 h2 => ?_⟩
  rw [List.getElem?_set] at h1 h2
  split at h1
  · rename_i hn; rw [if_pos hn] at h2
    split at h1
    · rename_i hl; rw [if_pos (h.1 ▸ hl)] at h2; cases h1; cases h2; exact hv
    · cases h1
  · rename_i hn; rw [if_neg hn] at h2; exact h.2 i u d h1 h2
theorem VR.agg' {s : CS} {l : List AV} {cs : Array Value} (h : LR s l cs.toList) : VR s (.agg l) (.agg cs) :=
  .agg l cs (by simpa using h.1) fun i x c h1 h2 => h.2 i x c h1 (by simpa using h2)
theorem VR.tup' {s : CS} {l : List AV} {cs : Array Value} (h : LR s l cs.toList) : VR s (.tup l) (.tuple cs) :=
  .tup l cs (by simpa using h.1) fun i x c h1 h2 => h.2 i x c h1 (by simpa using h2)
theorem VR.of_agg {s : CS} {l : List AV} {c : Value} (h : VR s (.agg l) c) : ∃ cs, c = .agg cs ∧ LR s l cs.toList := by
  cases h with
  | pv _ _ h => cases h
  | agg _ cs hl h => exact ⟨cs, rfl, by simpa using hl, fun i x c h1 h2 => h i x c h1 (by simpa using h2)⟩
theorem VR.of_tup {s : CS} {l : List AV} {c : Value} (h : VR s (.tup l) c) : ∃ cs, c = .tuple cs ∧ LR s l cs.toList := by
  cases h with
  | pv _ _ h => cases h
  | tup _ cs hl h => exact ⟨cs, rfl, by simpa using hl, fun i x c h1 h2 => h i x c h1 (by simpa using h2)⟩
end Go.Proofs.YtkgghgigjeihjaaGreat.Sim
