/-
  The abstract layer: values, memory, operations. Conditions: none.
-/
import Derived.Below
import Derived.Recover
import Derived.Laws.Cells
import Derived.Lib.ItoaNum
namespace Go.Am
open Go Go.RowKit

/-- Abstract values. 'undef': anything. 'iptr v off': a pointer into memory that never changes and holds v's cells. 'dptr x': a pointer to what the slice x lies in. 'list': a slice whose elements never change; its token tells who may append. 'mslice': a slice over a mutable object. -/
inductive AVal where
  | undef
  | bool (b : Bool)
  | int (k : IntKind) (n : Int)
  | str (s : List UInt8)
  | nilptr
  | ptr (g off : Nat)
  | iptr (v : AVal) (off : Nat)
  | dptr (x : AVal)
  | gptr (b off : Nat)
  | nilslice
  | list (tok : Option Nat) (es : Nat) (l : List AVal)
  | mslice (g es off len : Nat)
  | nilmap
  | map (g : Nat)
  | func (fn : Fn) (first cap : List AVal)
  | nilfunc
  | iface (t : TypeId) (v : AVal)
  | nilIface
  | agg (cs : List AVal)
  | tuple (vs : List AVal)
  deriving Inhabited

def AVal.cells : AVal → List AVal
  | .agg cs => cs
  | v => [v]

/-- A value that fills cells. -/
def AVal.isVal : AVal → Bool
  | .undef | .tuple _ => false
  | _ => true

inductive KC where
  | int | str | bool | pair

/-- Values that are held against each other cell by cell: numbers, texts, bools. -/
def cellEq : AVal → AVal → Option Bool
  | .int k a, .int k' b => if k = k' then some (decide (a = b)) else none
  | .str a, .str b => some (decide (a = b))
  | .bool a, .bool b => some (decide (a = b))
  | _, _ => none

def AVal.isInt : AVal → Bool
  | .int _ _ => true
  | _ => false

def AVal.isStr : AVal → Bool
  | .str _ => true
  | _ => false

/-- Keys: numbers, texts, bools, and pairs of interfaces that hold an int and a text (types 3 and 9). -/
def keyEq (c : KC) (a b : AVal) : Option Bool :=
  match c, a, b with
  | .int, .int k x, .int k' y => if k = k' then some (decide (x = y)) else none
  | .str, .str x, .str y => some (decide (x = y))
  | .bool, .bool x, .bool y => some (decide (x = y))
  | .pair, .agg [.iface t x, .iface u y], .agg [.iface t' x', .iface u' y'] =>
    if t = t' ∧ u = u' ∧ t = 3 ∧ u = 9 ∧ x.isInt = true ∧ y.isStr = true then match cellEq x x', cellEq y y' with
      | some p, some q => some (p && q)
      | _, _ => none
    else none
  | _, _, _ => none

/-- Keys of one kind that are all other ones. -/
def KDist (ks : List AVal) : Prop := ∃ c, ks.Pairwise fun p q => keyEq c p q = some false

/-- Abstract objects. 'tok n el': the right to append to a list of el's that is n long now. -/
inductive AObj where
  | cells (t : TypeId) (cs : List AVal)
  | map (es : List (AVal × AVal))
  | tok (n : Nat) (el : TypeId)
  | dead
  deriving Inhabited

abbrev ASt := List AObj

/-- What stands for an abstract object. -/
inductive ORef where
  | cell (b sz : Nat)
  | map (b : Nat)
  | tok (n b o es c : Nat) (el : TypeId)
  | hole
  deriving Inhabited

structure Phi where
  objs : List ORef
  hi : Nat → Nat

inductive VR (φ : Phi) (w : World) : AVal → Value → Prop where
  | undef (v : Value) : VR φ w .undef v
  | bool (b : Bool) : VR φ w (.bool b) (.bool b)
  | int (k : IntKind) (n : Int) : VR φ w (.int k n) (.int k n)
  | str (s : List UInt8) : VR φ w (.str s) (.string ⟨s.toArray⟩)
  | nilptr : VR φ w .nilptr (.pointer none)
  | ptr (g off b sz : Nat) (h : φ.objs[g]? = some (.cell b sz)) : VR φ w (.ptr g off) (.pointer (some ⟨b, off, none⟩))
  | iptr (v : AVal) (off b o : Nat) (f : Nat → Value) (hc : ∀ i, i < v.cells.length → w.cell? ⟨b, o + i, none⟩ = some (f i))
      (ho : ∀ i, i < v.cells.length → (f i).oneCell' = true) (hv : ∀ (i : Nat) a, v.cells[i]? = some a → VR φ w a (f i))
      (hh : 0 < v.cells.length → o + v.cells.length ≤ φ.hi b) : VR φ w (.iptr v off) (.pointer (some ⟨b, o + off, none⟩))
  | dptr (x : AVal) (b o n c : Nat) (h : VR φ w x (.slice (some ⟨b, o, none⟩) n c)) : VR φ w (.dptr x) (.pointer (some ⟨b, o, none⟩))
  | gptr (b off : Nat) : VR φ w (.gptr b off) (.pointer (some ⟨b, off, none⟩))
  | nilslice : VR φ w .nilslice (.slice none 0 0)
  | list (tok : Option Nat) (es : Nat) (l : List AVal) (b o cap : Nat) (f : Nat → Nat → Value) (hes : ∀ e ∈ l, e.cells.length = es)
      (hc : ∀ i, i < l.length → ∀ j, j < es → w.cell? ⟨b, o + i * es + j, none⟩ = some (f i j))
      (ho : ∀ i, i < l.length → ∀ j, j < es → (f i j).oneCell' = true)
      (hv : ∀ (i : Nat) e, l[i]? = some e → ∀ (j : Nat) a, e.cells[j]? = some a → VR φ w a (f i j))
      (hh : 0 < l.length * es → o + l.length * es ≤ φ.hi b) (hcap : l.length ≤ cap)
      (ht : ∀ k, tok = some k → ∃ n b' o' c' el, φ.objs[k]? = some (.tok n b' o' es c' el) ∧ l.length ≤ n ∧ (l.length = n → b' = b ∧ o' = o ∧ c' = cap)) :
      VR φ w (.list tok es l) (.slice (some ⟨b, o, none⟩) l.length cap)
  | mslice (g es off len b sz cap : Nat) (h : φ.objs[g]? = some (.cell b sz)) (hcap : len ≤ cap) (hsz : (off + cap) * es ≤ sz) :
      VR φ w (.mslice g es off len) (.slice (some ⟨b, off * es, none⟩) len cap)
  | nilmap : VR φ w .nilmap (.map none)
  | map (g b : Nat) (h : φ.objs[g]? = some (.map b)) : VR φ w (.map g) (.map (some b))
  | func (fn : Fn) (first cap : List AVal) (first' cap' : List Value) (h1 : first.length = first'.length) (h2 : cap.length = cap'.length)
      (hf : ∀ (i : Nat) a v, first[i]? = some a → first'[i]? = some v → VR φ w a v)
      (hk : ∀ (i : Nat) a v, cap[i]? = some a → cap'[i]? = some v → VR φ w a v) : VR φ w (.func fn first cap) (.func fn first'.toArray cap'.toArray)
  | nilfunc : VR φ w .nilfunc .nilFunc
  | iface (t : TypeId) (v : AVal) (v' : Value) (h : VR φ w v v') : VR φ w (.iface t v) (.iface t v')
  | nilIface : VR φ w .nilIface .nilIface
  | agg (cs : List AVal) (c : List Value) (hl : cs.length = c.length) (ho : ∀ v ∈ c, v.oneCell' = true)
      (hv : ∀ (i : Nat) a v, cs[i]? = some a → c[i]? = some v → VR φ w a v) : VR φ w (.agg cs) (.agg c.toArray)
  | tuple (cs : List AVal) (c : List Value) (hl : cs.length = c.length)
      (hv : ∀ (i : Nat) a v, cs[i]? = some a → c[i]? = some v → VR φ w a v) : VR φ w (.tuple cs) (.tuple c.toArray)

/-- Lists of values, one by one. -/
def VRs (φ : Phi) (w : World) (as : List AVal) (vs : List Value) : Prop := as.length = vs.length ∧ ∀ (i : Nat) a v, as[i]? = some a → vs[i]? = some v → VR φ w a v

def ORef.le : ORef → ORef → Prop
  | .tok n b o es c el, .tok n' b' o' es' c' el' => es' = es ∧ el' = el ∧ ((n' = n ∧ b' = b ∧ o' = o ∧ c' = c) ∨ n < n')
  | .hole, _ => True
  | r, r' => r = r'

theorem ORef.le_refl (r : ORef) : r.le r := by cases r <;> simp [ORef.le]
theorem ORef.le_trans {a b c : ORef} (h : a.le b) (k : b.le c) : a.le c := by
  cases a <;> cases b <;> simp [ORef.le] at h <;> cases c <;> simp [ORef.le] at k ⊢ <;> (try omega) <;> (try (simp [h]; done))
  obtain ⟨rfl, rfl, h⟩ := h
  obtain ⟨rfl, rfl, k⟩ := k
  exact ⟨rfl, rfl, by omega⟩

/-- What stands for things goes on standing for them. -/
structure Ext (φ : Phi) (w : World) (φ' : Phi) (w' : World) : Prop where
  objs : ∀ (g : Nat) r, φ.objs[g]? = some r → ∃ r', φ'.objs[g]? = some r' ∧ r.le r'
  hi : ∀ b, φ.hi b ≤ φ'.hi b
  same : ∀ b o, o < φ.hi b → w'.cell? ⟨b, o, none⟩ = w.cell? ⟨b, o, none⟩

theorem Ext.refl (φ : Phi) (w : World) : Ext φ w φ w := ⟨fun _ r h => ⟨r, h, r.le_refl⟩, fun _ => Nat.le_refl _, fun _ _ _ => rfl⟩
theorem Ext.trans {φ φ' φ'' : Phi} {w w' w'' : World} (h : Ext φ w φ' w') (k : Ext φ' w' φ'' w'') : Ext φ w φ'' w'' :=
  ⟨fun g r hr => let ⟨r1, h1, l1⟩ := h.objs g r hr; let ⟨r2, h2, l2⟩ := k.objs g r1 h1; ⟨r2, h2, ORef.le_trans l1 l2⟩,
   fun b => Nat.le_trans (h.hi b) (k.hi b),
   fun b o ho => (k.same b o (Nat.lt_of_lt_of_le ho (h.hi b))).trans (h.same b o ho)⟩

theorem VR.mono {φ φ' : Phi} {w w' : World} (x : Ext φ w φ' w') {a : AVal} {v : Value} (h : VR φ w a v) : VR φ' w' a v := by
  induction h with
  | undef v => exact .undef v
  | bool b => exact .bool b
  | int k n => exact .int k n
  | str s => exact .str s
  | nilptr => exact .nilptr
  | ptr g off b sz h =>
    obtain ⟨r', h', l⟩ := x.objs g _ h
    cases r' <;> simp [ORef.le] at l
    obtain ⟨rfl, rfl⟩ := l
    exact .ptr g off _ _ h'
  | iptr v off b o f hc ho _ hh ih =>
    refine .iptr v off b o f (fun i hi => ?_) ho ih (fun h0 => Nat.le_trans (hh h0) (x.hi b))
    rw [x.same b (o + i) (by have := hh (by omega); omega)]; exact hc i hi
  | dptr x b o n c _ ih => exact .dptr x b o n c ih
  | gptr b off => exact .gptr b off
  | nilslice => exact .nilslice
  | list tok es l b o cap f hes hc ho _ hh hcap ht ih =>
    refine .list tok es l b o cap f hes (fun i hi j hj => ?_) ho ih (fun h0 => Nat.le_trans (hh h0) (x.hi b)) hcap ?_
    · have hm : (i + 1) * es ≤ l.length * es := Nat.mul_le_mul_right es hi
      have hx : (i + 1) * es = i * es + es := by rw [Nat.add_mul, Nat.one_mul]
      rw [x.same b (o + i * es + j) (by have := hh (by omega); omega)]; exact hc i hi j hj
    · intro k hk
      obtain ⟨n, b', o', c', el, h1, h2, h3⟩ := ht k hk
      obtain ⟨r', h', l'⟩ := x.objs k _ h1
      cases r' with
      | tok n2 b2 o2 es2 c2 el2 =>
        simp only [ORef.le] at l'
        obtain ⟨rfl, rfl, l'⟩ := l'
        refine ⟨n2, b2, o2, c2, _, h', by omega, fun he => ?_⟩
        rcases l' with ⟨rfl, rfl, rfl, rfl⟩ | l'
        · exact h3 he
        · omega
      | cell _ _ => simp [ORef.le] at l'
      | map _ => simp [ORef.le] at l'
      | hole => simp [ORef.le] at l'
  | mslice g es off len b sz cap h hcap hsz =>
    obtain ⟨r', h', l⟩ := x.objs g _ h
    cases r' <;> simp [ORef.le] at l
    obtain ⟨rfl, rfl⟩ := l
    exact .mslice g es off len _ _ cap h' hcap hsz
  | nilmap => exact .nilmap
  | map g b h =>
    obtain ⟨r', h', l⟩ := x.objs g _ h
    cases r' <;> simp [ORef.le] at l
    obtain rfl := l
    exact .map g _ h'
  | func fn first cap first' cap' h1 h2 _ _ ih1 ih2 => exact .func fn first cap first' cap' h1 h2 ih1 ih2
  | nilfunc => exact .nilfunc
  | iface t v v' _ ih => exact .iface t v v' ih
  | nilIface => exact .nilIface
  | agg cs c hl ho _ ih => exact .agg cs c hl ho ih
  | tuple cs c hl _ ih => exact .tuple cs c hl ih

theorem VRs.mono {φ φ' : Phi} {w w' : World} (x : Ext φ w φ' w') {as : List AVal} {vs : List Value} (h : VRs φ w as vs) : VRs φ' w' as vs :=
  ⟨h.1, fun i a v h1 h2 => (h.2 i a v h1 h2).mono x⟩

def owns : AObj → ORef → Option Nat
  | .cells _ _, .cell b _ => some b
  | .map _, .map b => some b
  | .tok _ _, .tok _ b _ _ _ _ => some b
  | _, _ => none

/-- An object and the block that stands for it. -/
def ObjOk (w0 : World) (φ : Phi) (w : World) : AObj → ORef → Prop
  | .cells t cs, r => ∃ b sz, r = .cell b sz ∧ w0.heap.size ≤ b ∧ φ.hi b = 0 ∧ ∃ c, w.heap[b]? = some (.cells c t (0, 0)) ∧ c.size = sz ∧ cs.length = sz ∧
      (∀ (i : Nat) a v, cs[i]? = some a → c[i]? = some v → VR φ w a v) ∧ ∀ v ∈ c.toList, v.oneCell' = true
  | .map es, r => ∃ b, r = .map b ∧ w0.heap.size ≤ b ∧ φ.hi b = 0 ∧ ∃ ce clock es', w.heap[b]? = some (.map ce clock) ∧ es.Perm es' ∧ KDist (es.map (·.1)) ∧ es'.length = ce.size ∧
      ∀ (i : Nat) p q, es'[i]? = some p → ce[i]? = some q → VR φ w p.1 q.key ∧ VR φ w p.2 q.val
  | .tok n el, r => ∃ b o es c, r = .tok n b o es c el ∧ n ≤ c ∧ 0 < es ∧ w0.heap.size ≤ b ∧ φ.hi b = o + n * es ∧
      ∃ ce fr, w.heap[b]? = some (.cells ce el fr) ∧ o + c * es ≤ ce.size ∧ fr.2 ≤ o + n * es
  | .dead, r => r = .hole

structure Sim (w0 : World) (φ : Phi) (σ : ASt) (w : World) : Prop where
  len : σ.length = φ.objs.length
  obj : ∀ (g : Nat) o r, σ[g]? = some o → φ.objs[g]? = some r → ObjOk w0 φ w o r
  uniq : ∀ (g g' : Nat) o o' r r' b, σ[g]? = some o → φ.objs[g]? = some r → σ[g']? = some o' → φ.objs[g']? = some r' → owns o r = some b → owns o' r' = some b → g = g'
  hiok : ∀ b, 0 < φ.hi b → ∃ c el fr, w.heap[b]? = some (.cells c el fr) ∧ φ.hi b ≤ c.size
  frame : Below w0.heap.size w0 w

theorem Sim.ref {w0 : World} {φ : Phi} {σ : ASt} {w : World} (s : Sim w0 φ σ w) {g : Nat} {o : AObj} (h : σ[g]? = some o) : ∃ r, φ.objs[g]? = some r ∧ ObjOk w0 φ w o r := by
  have hg : g < σ.length := by
    rcases Nat.lt_or_ge g σ.length with h' | h'
    · exact h'
    · simp [List.getElem?_eq_none h'] at h
  have : g < φ.objs.length := s.len ▸ hg
  exact ⟨φ.objs[g], by simp, s.obj g o _ h (by simp)⟩

theorem ObjOk.mono {w0 : World} {φ φ' : Phi} {w w' : World} (x : Ext φ w φ' w') {o : AObj} {r : ORef} (h : ObjOk w0 φ w o r)
    (hb : ∀ b, owns o r = some b → w'.heap[b]? = w.heap[b]? ∧ φ'.hi b = φ.hi b) : ObjOk w0 φ' w' o r := by
  cases o with
  | cells t cs =>
    obtain ⟨b, sz, rfl, h1, h2, c, h3, h4, h5, h6, h7⟩ := h
    obtain ⟨k1, k2⟩ := hb b rfl
    exact ⟨b, sz, rfl, h1, k2.trans h2, c, k1.trans h3, h4, h5, fun i a v p q => (h6 i a v p q).mono x, h7⟩
  | map es =>
    obtain ⟨b, rfl, h1, h2, ce, cl, es', h3, hp, hd, h4, h5⟩ := h
    obtain ⟨k1, k2⟩ := hb b rfl
    exact ⟨b, rfl, h1, k2.trans h2, ce, cl, es', k1.trans h3, hp, hd, h4, fun i a b p q => ⟨(h5 i a b p q).1.mono x, (h5 i a b p q).2.mono x⟩⟩
  | tok n el =>
    obtain ⟨b, o, es, c, rfl, h1, p0, p1, p2, ce, fr, p3, p4, p5⟩ := h
    obtain ⟨k1, k2⟩ := hb b rfl
    exact ⟨b, o, es, c, rfl, h1, p0, p1, k2.trans p2, ce, fr, k1.trans p3, p4, p5⟩
  | dead => exact h

/-- A world in which only the count of draws has turned. -/
theorem Sim.drew {w0 : World} {φ : Phi} {σ : ASt} {w : World} (s : Sim w0 φ σ w) : Sim w0 φ σ w.drew ∧ Ext φ w φ w.drew := by
  have x : Ext φ w φ w.drew := ⟨fun _ r h => ⟨r, h, r.le_refl⟩, fun _ => Nat.le_refl _, fun _ _ _ => rfl⟩
  exact ⟨⟨s.len, fun g o r h1 h2 => (s.obj g o r h1 h2).mono x fun _ _ => ⟨rfl, rfl⟩, s.uniq, s.hiok, s.frame.drew⟩, x⟩

end Go.Am

namespace Go.Am
open Go Go.RowKit

theorem add_none (b o n : Nat) : (Addr.mk b o none).add n = ⟨b, o + n, none⟩ := by
  unfold Addr.add; split
  · rename_i h; simp [h]
  · rfl

/-- Cells are written one behind the other. -/
def wr (w : World) (b off : Nat) : List Value → World
  | [] => w
  | v :: vs => wr (w.setCell ⟨b, off, none⟩ v) b (off + 1) vs

theorem setCell_block {w : World} {b off : Nat} {v : Value} {c : Array Value} {el : TypeId} {fr : Nat × Nat} (h : w.heap[b]? = some (.cells c el fr)) :
    (w.setCell ⟨b, off, none⟩ v).heap[b]? = some (.cells (c.setIfInBounds off v) el fr) := by
  simp [World.setCell, Array.getElem?_modify, h]

theorem setCell_others {w : World} {b off : Nat} {v : Value} {k : Nat} (h : k ≠ b) : (w.setCell ⟨b, off, none⟩ v).heap[k]? = w.heap[k]? :=
  Below.heap_setCell w ⟨b, off, none⟩ v k h

theorem wr_others (b : Nat) : ∀ (vs : List Value) (off : Nat) (w : World) (k : Nat), k ≠ b → (wr w b off vs).heap[k]? = w.heap[k]?
  | [], _, _, _, _ => rfl
  | v :: vs, off, w, k, h => by rw [wr, wr_others b vs (off + 1) _ k h, setCell_others h]

theorem wr_same (b : Nat) : ∀ (vs : List Value) (off : Nat) (w : World), (wr w b off vs).os = w.os ∧ (wr w b off vs).tape = w.tape ∧ (wr w b off vs).output = w.output ∧ (wr w b off vs).heap.size = w.heap.size
  | [], _, _ => ⟨rfl, rfl, rfl, rfl⟩
  | v :: vs, off, w => by
    obtain ⟨h1, h2, h3, h4⟩ := wr_same b vs (off + 1) (w.setCell ⟨b, off, none⟩ v)
    rw [wr]; exact ⟨h1, h2, h3, by rw [h4]; simp⟩

theorem wr_block (b : Nat) : ∀ (vs : List Value) (off : Nat) (w : World) (c : Array Value) (el : TypeId) (fr : Nat × Nat), w.heap[b]? = some (.cells c el fr) → off + vs.length ≤ c.size →
    ∃ c', (wr w b off vs).heap[b]? = some (.cells c' el fr) ∧ c'.size = c.size ∧
      (∀ i (h : i < vs.length), c'[off + i]? = some vs[i]) ∧ (∀ i, (i < off ∨ off + vs.length ≤ i) → c'[i]? = c[i]?)
  | [], off, w, c, el, fr, h, _ => ⟨c, h, rfl, fun i hi => by simp at hi, fun _ _ => rfl⟩
  | v :: vs, off, w, c, el, fr, h, hl => by
    simp only [List.length_cons] at hl
    obtain ⟨c', h1, h2, h3, h4⟩ := wr_block b vs (off + 1) (w.setCell ⟨b, off, none⟩ v) (c.setIfInBounds off v) el fr (setCell_block h) (by simp; omega)
    refine ⟨c', h1, by simpa using h2, fun i hi => ?_, fun i hi => ?_⟩
    · cases i with
      | zero =>
        rw [h4 (off + 0) (by omega)]
        simp [show off < c.size by omega]
      | succ i =>
        have := h3 i (by simpa using hi)
        rw [show off + (i + 1) = off + 1 + i by omega, this]; simp
    · simp only [List.length_cons] at hi
      rw [h4 i (by omega), Array.getElem?_setIfInBounds_ne (by omega)]

theorem cell_of_block {w : World} {b i : Nat} {c : Array Value} {el : TypeId} {fr : Nat × Nat} (h : w.heap[b]? = some (.cells c el fr)) : w.cell? ⟨b, i, none⟩ = c[i]? := by
  simp [World.cell?, h]

theorem frozen_of_block {w : World} {b i : Nat} {c : Array Value} {el : TypeId} {fr : Nat × Nat} (h : w.heap[b]? = some (.cells c el fr)) : w.frozen? ⟨b, i, none⟩ = (decide (fr.1 ≤ i) && decide (i < fr.2)) := by
  simp [World.frozen?, h]

theorem run_storeCells (P : Program) (b o : Nat) : ∀ (vs : List Value) (i : Nat) (w : World) (c : Array Value) (el : TypeId) (fr : Nat × Nat), w.heap[b]? = some (.cells c el fr) → o + i + vs.length ≤ c.size →
    (∀ v ∈ vs, v.oneCell' = true) → (∀ k, o + i ≤ k → k < o + i + vs.length → (decide (fr.1 ≤ k) && decide (k < fr.2)) = false) →
    (storeCells ⟨b, o, none⟩ vs i).run P w = .ok () (wr w b (o + i) vs)
  | [], i, w, c, el, fr, _, _, _, _ => rfl
  | v :: vs, i, w, c, el, fr, h, hl, ho, hf => by
    simp only [List.length_cons] at hl hf
    have hc : w.cell? ⟨b, o + i, none⟩ = some c[o + i] := by rw [cell_of_block h]; simp
    have hz : w.frozen? ⟨b, o + i, none⟩ = false := by rw [frozen_of_block h]; exact hf _ (by omega) (by omega)
    rw [storeCells, Sem.run_bind, run_store P w _ v _ (ho v (by simp)), add_none]
    simp only [hc, hz, Bool.false_eq_true, ↓reduceIte, Result.andThen_ok]
    rw [run_storeCells P b o vs (i + 1) _ (c.setIfInBounds (o + i) v) el fr (setCell_block h) (by simp; omega) (fun v hv => ho v (by simp [hv])) (fun k h1 h2 => hf k (by omega) (by omega))]
    rw [wr, show o + (i + 1) = o + i + 1 by omega]

theorem owns_lt {w0 : World} {φ : Phi} {w : World} {o : AObj} {r : ORef} {b : Nat} (h : ObjOk w0 φ w o r) (hb : owns o r = some b) : b < w.heap.size ∧ w0.heap.size ≤ b := by
  have key : ∀ x : Obj, w.heap[b]? = some x → b < w.heap.size := fun x hx => by
    rcases Nat.lt_or_ge b w.heap.size with h' | h'
    · exact h'
    · simp [Array.getElem?_eq_none h'] at hx
  cases o with
  | cells t cs =>
    obtain ⟨b', sz, rfl, h1, h2, c, h3, _⟩ := h
    simp only [owns, Option.some.injEq] at hb; subst hb
    exact ⟨key _ h3, h1⟩
  | map es =>
    obtain ⟨b', rfl, h1, h2, ce, cl, _, h3, _⟩ := h
    simp only [owns, Option.some.injEq] at hb; subst hb
    exact ⟨key _ h3, h1⟩
  | tok n el =>
    obtain ⟨b', o, es, c, rfl, h1, p0, p1, p2, ce, fr, p3, _⟩ := h
    simp only [owns, Option.some.injEq] at hb; subst hb
    exact ⟨key _ p3, p1⟩
  | dead => simp [owns] at hb

theorem Sim.hi_new {w0 : World} {φ : Phi} {σ : ASt} {w : World} (s : Sim w0 φ σ w) {b : Nat} (h : w.heap.size ≤ b) : φ.hi b = 0 := by
  rcases Nat.eq_zero_or_pos (φ.hi b) with h' | h'
  · exact h'
  · obtain ⟨c, el, fr, h1, _⟩ := s.hiok b h'
    simp [Array.getElem?_eq_none h] at h1

theorem heap_alloc_old {w : World} {o : Obj} {k : Nat} (h : k < w.heap.size) : (w.alloc o).heap[k]? = w.heap[k]? := Below.heap_alloc w o k h
theorem heap_alloc_new (w : World) (o : Obj) : (w.alloc o).heap[w.heap.size]? = some o := by
  show (w.heap.push o)[w.heap.size]? = some o; simp

/-- A new object, in a new block. -/
theorem Sim.push {w0 : World} {φ : Phi} {σ : ASt} {w : World} (s : Sim w0 φ σ w) (o : AObj) (r : ORef) (ob : Obj) (hi' : Nat → Nat)
    (hh : ∀ b, b ≠ w.heap.size → hi' b = φ.hi b)
    (hio : 0 < hi' w.heap.size → ∃ c el fr, ob = .cells c el fr ∧ hi' w.heap.size ≤ c.size)
    (hown : ∀ b, owns o r = some b → b = w.heap.size)
    (hok : Ext φ w ⟨φ.objs ++ [r], hi'⟩ (w.alloc ob) → ObjOk w0 ⟨φ.objs ++ [r], hi'⟩ (w.alloc ob) o r) :
    Ext φ w ⟨φ.objs ++ [r], hi'⟩ (w.alloc ob) ∧ Sim w0 ⟨φ.objs ++ [r], hi'⟩ (σ ++ [o]) (w.alloc ob) := by
  have x : Ext φ w ⟨φ.objs ++ [r], hi'⟩ (w.alloc ob) := by
    refine ⟨fun g r' h => ⟨r', ?_, r'.le_refl⟩, fun b => ?_, fun b o ho => ?_⟩
    · have : g < φ.objs.length := by
        rcases Nat.lt_or_ge g φ.objs.length with h' | h'
        · exact h'
        · simp [List.getElem?_eq_none h'] at h
      simpa [List.getElem?_append_left this] using h
    · by_cases hb : b = w.heap.size
      · subst hb; rw [s.hi_new (Nat.le_refl _)]; exact Nat.zero_le _
      · simp [hh b hb]
    · have hb : b < w.heap.size := by
        rcases Nat.lt_or_ge b w.heap.size with h' | h'
        · exact h'
        · rw [s.hi_new h'] at ho; omega
      simp only [World.cell?, heap_alloc_old hb]
  refine ⟨x, ⟨by simp [s.len], ?_, ?_, ?_, s.frame.alloc (s.frame.size) ob⟩⟩
  · intro g o' r' h1 h2
    rcases Nat.lt_or_ge g σ.length with h' | h'
    · rw [List.getElem?_append_left h'] at h1
      rw [List.getElem?_append_left (s.len ▸ h')] at h2
      have k := s.obj g o' r' h1 h2
      refine k.mono x fun b hb => ?_
      have hlt := (owns_lt k hb).1
      exact ⟨heap_alloc_old hlt, hh b (Nat.ne_of_lt hlt)⟩
    · have hg : g = σ.length := by
        rcases Nat.lt_or_ge g (σ.length + 1) with h'' | h''
        · omega
        · rw [List.getElem?_eq_none (by simp; omega)] at h1; simp at h1
      subst hg
      simp at h1; subst h1
      rw [s.len] at h2; simp at h2; subst h2
      exact hok x
  · intro g g' o1 o2 r1 r2 b h1 h2 h3 h4 h5 h6
    have old : ∀ g o' r', (σ ++ [o])[g]? = some o' → (φ.objs ++ [r])[g]? = some r' → owns o' r' = some b → (g = σ.length ∧ b = w.heap.size) ∨ (g < σ.length ∧ σ[g]? = some o' ∧ φ.objs[g]? = some r' ∧ b < w.heap.size) := by
      intro g o' r' h1 h2 h5
      rcases Nat.lt_or_ge g σ.length with h' | h'
      · rw [List.getElem?_append_left h'] at h1
        rw [List.getElem?_append_left (s.len ▸ h')] at h2
        exact .inr ⟨h', h1, h2, (owns_lt (s.obj g o' r' h1 h2) h5).1⟩
      · have hg : g = σ.length := by
          rcases Nat.lt_or_ge g (σ.length + 1) with h'' | h''
          · omega
          · rw [List.getElem?_eq_none (by simp; omega)] at h1; simp at h1
        subst hg
        simp at h1; subst h1
        rw [s.len] at h2; simp at h2; subst h2
        exact .inl ⟨rfl, hown b h5⟩
    rcases old g o1 r1 h1 h2 h5 with ⟨a1, a2⟩ | ⟨a1, a2, a3, a4⟩ <;> rcases old g' o2 r2 h3 h4 h6 with ⟨b1, b2⟩ | ⟨b1, b2, b3, b4⟩
    · omega
    · omega
    · omega
    · exact s.uniq g g' o1 o2 r1 r2 b a2 a3 b2 b3 h5 h6
  · intro b hb
    by_cases hbb : b = w.heap.size
    · subst hbb
      obtain ⟨c, el, fr, h1, h2⟩ := hio hb
      exact ⟨c, el, fr, by rw [heap_alloc_new, h1], h2⟩
    · have hb' : 0 < φ.hi b := by rw [← hh b hbb]; exact hb
      obtain ⟨c, el, fr, h1, h2⟩ := s.hiok b hb'
      have hlt : b < w.heap.size := by
        rcases Nat.lt_or_ge b w.heap.size with h' | h'
        · exact h'
        · simp [Array.getElem?_eq_none h'] at h1
      exact ⟨c, el, fr, by rw [heap_alloc_old hlt]; exact h1, by show hi' b ≤ _; rw [hh b hbb]; exact h2⟩

/-- A new variable, struct or made slice. -/
theorem Sim.newCells {w0 : World} {φ : Phi} {σ : ASt} {w : World} (s : Sim w0 φ σ w) (cs : List AVal) (c : Array Value) (el : TypeId) (hl : cs.length = c.size)
    (hv : ∀ (i : Nat) a v, cs[i]? = some a → c[i]? = some v → VR φ w a v) (ho : ∀ v ∈ c.toList, v.oneCell' = true) :
    Ext φ w ⟨φ.objs ++ [.cell w.heap.size c.size], φ.hi⟩ (w.alloc (.cells c el)) ∧ Sim w0 ⟨φ.objs ++ [.cell w.heap.size c.size], φ.hi⟩ (σ ++ [.cells el cs]) (w.alloc (.cells c el)) := by
  refine s.push (.cells el cs) _ _ φ.hi (fun _ _ => rfl) (fun h => ?_) (fun b h => by simp [owns] at h; exact h.symm) (fun x => ?_)
  · rw [s.hi_new (Nat.le_refl _)] at h; omega
  · exact ⟨w.heap.size, c.size, rfl, s.frame.size, s.hi_new (Nat.le_refl _), c, heap_alloc_new _ _, rfl, hl, fun i a v p q => (hv i a v p q).mono x, ho⟩

theorem Sim.newMap {w0 : World} {φ : Phi} {σ : ASt} {w : World} (s : Sim w0 φ σ w) :
    Ext φ w ⟨φ.objs ++ [.map w.heap.size], φ.hi⟩ (w.alloc (.map #[] 0)) ∧ Sim w0 ⟨φ.objs ++ [.map w.heap.size], φ.hi⟩ (σ ++ [.map []]) (w.alloc (.map #[] 0)) := by
  refine s.push (.map []) _ _ φ.hi (fun _ _ => rfl) (fun h => ?_) (fun b h => by simp [owns] at h; exact h.symm) (fun x => ?_)
  · rw [s.hi_new (Nat.le_refl _)] at h; omega
  · exact ⟨w.heap.size, rfl, s.frame.size, s.hi_new (Nat.le_refl _), #[], 0, [], heap_alloc_new _ _, .refl _, ⟨.int, .nil⟩, rfl, fun i p q h => by simp at h⟩

/-- A new row of cells that never change up to n elements; behind them there is room for c in all. -/
theorem Sim.newTok {w0 : World} {φ : Phi} {σ : ASt} {w : World} (s : Sim w0 φ σ w) (n es c : Nat) (hes : 0 < es) (hn : n ≤ c) (cs : Array Value) (el : TypeId) (hsz : c * es ≤ cs.size) :
    Ext φ w ⟨φ.objs ++ [.tok n w.heap.size 0 es c el], fun b => if b = w.heap.size then n * es else φ.hi b⟩ (w.alloc (.cells cs el)) ∧
      Sim w0 ⟨φ.objs ++ [.tok n w.heap.size 0 es c el], fun b => if b = w.heap.size then n * es else φ.hi b⟩ (σ ++ [.tok n el]) (w.alloc (.cells cs el)) := by
  refine s.push (.tok n el) _ _ _ (fun b h => by simp [h]) (fun h => ⟨cs, el, (0, 0), rfl, ?_⟩) (fun b h => ?_) (fun x => ?_)
  · simp only [if_true]; exact Nat.le_trans (Nat.mul_le_mul_right es hn) hsz
  · simp only [owns, Option.some.injEq] at h; exact h.symm
  · exact ⟨w.heap.size, 0, es, c, rfl, hn, hes, s.frame.size, by simp, cs, (0, 0), heap_alloc_new _ _, by omega, by simp⟩

end Go.Am

namespace Go.Am
open Go Go.RowKit

/-- Object g becomes another one; its block alone turns. -/
theorem Sim.change {w0 : World} {φ : Phi} {σ : ASt} {w w' : World} (s : Sim w0 φ σ w) (g : Nat) (o o' : AObj) (r r' : ORef) (b : Nat) (hi' : Nat → Nat)
    (hg : σ[g]? = some o) (hr : φ.objs[g]? = some r) (hb : owns o r = some b) (hle : r.le r')
    (hh : ∀ k, k ≠ b → hi' k = φ.hi k) (hhb : φ.hi b ≤ hi' b)
    (hoth : ∀ k, k ≠ b → w'.heap[k]? = w.heap[k]?) (hsame : ∀ o, o < φ.hi b → w'.cell? ⟨b, o, none⟩ = w.cell? ⟨b, o, none⟩)
    (hos : w'.os = w.os) (htp : w'.tape = w.tape) (hout : w'.output = w.output) (hsz : w.heap.size ≤ w'.heap.size)
    (hown : ∀ k, owns o' r' = some k → k = b)
    (hio : 0 < hi' b → ∃ c el fr, w'.heap[b]? = some (.cells c el fr) ∧ hi' b ≤ c.size)
    (hok : Ext φ w ⟨φ.objs.set g r', hi'⟩ w' → ObjOk w0 ⟨φ.objs.set g r', hi'⟩ w' o' r') :
    Ext φ w ⟨φ.objs.set g r', hi'⟩ w' ∧ Sim w0 ⟨φ.objs.set g r', hi'⟩ (σ.set g o') w' := by
  have hgl : g < φ.objs.length := by
    rcases Nat.lt_or_ge g φ.objs.length with h' | h'
    · exact h'
    · simp [List.getElem?_eq_none h'] at hr
  have hbl := owns_lt (s.obj g o r hg hr) hb
  have x : Ext φ w ⟨φ.objs.set g r', hi'⟩ w' := by
    refine ⟨fun k q h => ?_, fun k => ?_, fun k o ho => ?_⟩
    · by_cases hk : k = g
      · subst hk; rw [hr] at h; cases h
        exact ⟨r', by simp [hgl], hle⟩
      · exact ⟨q, by simp [List.getElem?_set_ne (Ne.symm hk), h], q.le_refl⟩
    · by_cases hk : k = b
      · subst hk; exact hhb
      · exact Nat.le_of_eq (hh k hk).symm
    · by_cases hk : k = b
      · subst hk; exact hsame o ho
      · simp only [World.cell?, hoth k hk]
  refine ⟨x, ⟨by simp [s.len], ?_, ?_, ?_, ?_⟩⟩
  · intro k q t h1 h2
    by_cases hk : k = g
    · subst hk
      simp [s.len, hgl] at h1 h2
      subst h1 h2; exact hok x
    · rw [List.getElem?_set_ne (Ne.symm hk)] at h1 h2
      refine (s.obj k q t h1 h2).mono x fun b' hb' => ?_
      have hne : b' ≠ b := fun e => hk (s.uniq k g q o t r b h1 h2 hg hr (e ▸ hb') hb)
      exact ⟨hoth b' hne, hh b' hne⟩
  · intro k k' q q' t t' b' h1 h2 h3 h4 h5 h6
    have old : ∀ k q t, (σ.set g o')[k]? = some q → (φ.objs.set g r')[k]? = some t → owns q t = some b' → (k = g ∧ b' = b) ∨ (k ≠ g ∧ σ[k]? = some q ∧ φ.objs[k]? = some t) := by
      intro k q t h1 h2 h5
      by_cases hk : k = g
      · subst hk
        simp [s.len, hgl] at h1 h2
        subst h1 h2
        exact .inl ⟨rfl, hown b' h5⟩
      · rw [List.getElem?_set_ne (Ne.symm hk)] at h1 h2
        exact .inr ⟨hk, h1, h2⟩
    rcases old k q t h1 h2 h5 with ⟨a1, a2⟩ | ⟨a1, a2, a3⟩ <;> rcases old k' q' t' h3 h4 h6 with ⟨b1, b2⟩ | ⟨b1, b2, b3⟩
    · omega
    · exact absurd (s.uniq k' g q' o t' r b b2 b3 hg hr (a2 ▸ h6) hb) b1
    · exact absurd (s.uniq k g q o t r b a2 a3 hg hr (b2 ▸ h5) hb) a1
    · exact s.uniq k k' q q' t t' b' a2 a3 b2 b3 h5 h6
  · intro k hk
    by_cases hkb : k = b
    · subst hkb; exact hio hk
    · have hk' : 0 < φ.hi k := by rw [← hh k hkb]; exact hk
      obtain ⟨c, el, fr, h1, h2⟩ := s.hiok k hk'
      exact ⟨c, el, fr, (hoth k hkb).trans h1, by show hi' k ≤ _; rw [hh k hkb]; exact h2⟩
  · have f := s.frame
    exact ⟨hos.trans f.os, htp.trans f.tape, hout.trans f.output, Nat.le_trans f.size hsz, fun k hk => (hoth k (by omega)).trans (f.block k hk)⟩

theorem set_self {α : Type} {l : List α} {g : Nat} {x : α} (h : l[g]? = some x) : l.set g x = l := by
  apply List.ext_getElem? fun i => ?_
  by_cases hi : i = g
  · subst hi; rw [h, List.getElem?_set_self (by rcases Nat.lt_or_ge i l.length with h' | h'; exact h'; simp [List.getElem?_eq_none h'] at h)]
  · rw [List.getElem?_set_ne (Ne.symm hi)]

theorem splice_get {α : Type} {cs vs : List α} {off i : Nat} (hl : off + vs.length ≤ cs.length) :
    (cs.take off ++ vs ++ cs.drop (off + vs.length))[i]? = if off ≤ i ∧ i < off + vs.length then vs[i - off]? else cs[i]? := by
  split
  · rename_i h
    rw [List.append_assoc, List.getElem?_append_right (by simp; omega), List.getElem?_append_left (by simp; omega)]
    simp [show min off cs.length = off by omega]
  · rename_i h
    by_cases hlt : i < off
    · rw [List.append_assoc, List.getElem?_append_left (by simp; omega), List.getElem?_take, if_pos hlt]
    · rw [List.getElem?_append_right (by simp; omega), List.getElem?_drop]
      congr 1; simp; omega

/-- Cells of an object are written. -/
theorem Sim.setCells {w0 : World} {φ : Phi} {σ : ASt} {w : World} (s : Sim w0 φ σ w) {g off b sz : Nat} {t : TypeId} {cs vs : List AVal} {us : List Value} (hg : σ[g]? = some (.cells t cs)) (hr : φ.objs[g]? = some (.cell b sz))
    (hl : off + vs.length ≤ cs.length) (hu : VRs φ w vs us) (ho : ∀ v ∈ us, v.oneCell' = true) :
    Ext φ w φ (wr w b off us) ∧ Sim w0 φ (σ.set g (.cells t (cs.take off ++ vs ++ cs.drop (off + vs.length)))) (wr w b off us) := by
  obtain ⟨hu, hv⟩ := hu
  obtain ⟨b', sz', e, h1, h2, c, h3, h4, h5, h6, h7⟩ := s.obj g _ _ hg hr
  cases e
  obtain ⟨c', k1, k2, k3, k4⟩ := wr_block b us off w c t (0, 0) h3 (by omega)
  obtain ⟨q1, q2, q3, q4⟩ := wr_same b us off w
  have hc' : ∀ i, c'[i]? = if off ≤ i ∧ i < off + us.length then us[i - off]? else c[i]? := by
    intro i
    split
    · rename_i h
      have := k3 (i - off) (by omega)
      rw [show off + (i - off) = i by omega] at this
      rw [this, List.getElem?_eq_getElem]
    · rename_i h; exact k4 i (by omega)
  have := s.change g (.cells t cs) (.cells t (cs.take off ++ vs ++ cs.drop (off + vs.length))) (.cell b sz) (.cell b sz) b φ.hi (w' := wr w b off us) hg hr rfl (ORef.le_refl _) (fun _ _ => rfl) (Nat.le_refl _)
    (fun k hk => wr_others b us off w k hk) (fun o ho => by rw [h2] at ho; omega) q1 q2 q3 (Nat.le_of_eq q4.symm) (fun k hk => by simp [owns] at hk; exact hk.symm)
    (fun h => by rw [h2] at h; omega) (fun x => ?_)
  · rw [set_self hr] at this; exact this
  · refine ⟨b, sz, rfl, h1, h2, c', k1, k2.trans h4, by simp; omega, fun i a v ha hv' => ?_, fun v hv' => ?_⟩
    · rw [splice_get hl] at ha
      rw [hc', ← hu] at hv'
      split at ha
      · rename_i h; rw [if_pos h] at hv'; exact (hv _ _ _ ha hv').mono x
      · rename_i h; rw [if_neg h] at hv'; exact (h6 _ _ _ ha hv').mono x
    · obtain ⟨i, hi⟩ := List.getElem?_of_mem hv'
      rw [Array.getElem?_toList, hc'] at hi
      split at hi
      · exact ho _ (List.mem_of_getElem? hi)
      · exact h7 _ (List.mem_of_getElem? (Array.getElem?_toList ▸ hi))

/-- A map's entries become others. -/
theorem Sim.setMap {w0 : World} {φ : Phi} {σ : ASt} {w : World} (s : Sim w0 φ σ w) {g b : Nat} {es es2 es' : List (AVal × AVal)} {ce : Array MapEntry} {clock : Nat} (hg : σ[g]? = some (.map es)) (hr : φ.objs[g]? = some (.map b))
    (hp : es2.Perm es') (hd : KDist (es2.map (·.1))) (hl : es'.length = ce.size) (hv : ∀ (i : Nat) p q, es'[i]? = some p → ce[i]? = some q → VR φ w p.1 q.key ∧ VR φ w p.2 q.val) :
    Ext φ w φ { w with heap := w.heap.setIfInBounds b (.map ce clock) } ∧ Sim w0 φ (σ.set g (.map es2)) { w with heap := w.heap.setIfInBounds b (.map ce clock) } := by
  obtain ⟨b', e, h1, h2, ce0, cl0, es0, h3, h4, h5⟩ := s.obj g _ _ hg hr
  cases e
  have hlt := (owns_lt (s.obj g _ _ hg hr) rfl).1
  have := s.change g (.map es) (.map es2) (.map b) (.map b) b φ.hi (w' := { w with heap := w.heap.setIfInBounds b (.map ce clock) }) hg hr rfl (ORef.le_refl _) (fun _ _ => rfl) (Nat.le_refl _)
    (fun k hk => Array.getElem?_setIfInBounds_ne (by omega)) (fun o ho => by rw [h2] at ho; omega) rfl rfl rfl (by simp) (fun k hk => by simp [owns] at hk; exact hk.symm)
    (fun h => by rw [h2] at h; omega) (fun x => ?_)
  · rw [set_self hr] at this; exact this
  · refine ⟨b, rfl, h1, h2, ce, clock, es', by simp [hlt], hp, hd, hl, fun i p q hp hq => ?_⟩
    exact ⟨(hv i p q hp hq).1.mono x, (hv i p q hp hq).2.mono x⟩

/-- What may be appended to is appended to where it lies. -/
theorem Sim.appendIn {w0 : World} {φ : Phi} {σ : ASt} {w : World} (s : Sim w0 φ σ w) {g n m b o es c : Nat} {el : TypeId} {us : List Value} (hg : σ[g]? = some (.tok n el)) (hr : φ.objs[g]? = some (.tok n b o es c el))
    (hm : 0 < m) (hc : n + m ≤ c) (hu : us.length = m * es) :
    Ext φ w ⟨φ.objs.set g (.tok (n + m) b o es c el), fun k => if k = b then o + (n + m) * es else φ.hi k⟩ (wr w b (o + n * es) us) ∧
      Sim w0 ⟨φ.objs.set g (.tok (n + m) b o es c el), fun k => if k = b then o + (n + m) * es else φ.hi k⟩ (σ.set g (.tok (n + m) el)) (wr w b (o + n * es) us) ∧
      ∃ ce fr, w.heap[b]? = some (.cells ce el fr) ∧ o + n * es + us.length ≤ ce.size ∧ fr.2 ≤ o + n * es ∧ ∀ i (h : i < us.length), (wr w b (o + n * es) us).cell? ⟨b, o + n * es + i, none⟩ = some us[i] := by
  obtain ⟨b', o', es', c', e, h1, p0, p1, p2, ce, fr, p3, p4, p5⟩ := s.obj g _ _ hg hr
  cases e
  have hmul : (n + m) * es ≤ c * es := Nat.mul_le_mul_right es hc
  rw [Nat.add_mul] at hmul
  obtain ⟨c', k1, k2, k3, k4⟩ := wr_block b us (o + n * es) w ce el fr p3 (by omega)
  obtain ⟨q1, q2, q3, q4⟩ := wr_same b us (o + n * es) w
  have := s.change g (.tok n el) (.tok (n + m) el) (.tok n b o es c el) (.tok (n + m) b o es c el) b (fun k => if k = b then o + (n + m) * es else φ.hi k) (w' := wr w b (o + n * es) us) hg hr
    rfl (by simp [ORef.le]; omega) (fun k hk => by simp [hk]) (by simp only [if_true]; rw [p2, Nat.add_mul]; omega)
    (fun k hk => wr_others b us _ w k hk) (fun i hi => by rw [p2] at hi; rw [cell_of_block k1, cell_of_block p3, k4 i (by omega)]) q1 q2 q3 (Nat.le_of_eq q4.symm)
    (fun k hk => by simp only [owns, Option.some.injEq] at hk; exact hk.symm)
    (fun _ => ⟨c', el, fr, k1, by simp only [if_true]; rw [Nat.add_mul]; omega⟩) (fun x => ?_)
  · exact ⟨this.1, this.2, ce, fr, p3, by omega, p5, fun i hi => by rw [cell_of_block k1, k3 i hi]⟩
  · exact ⟨b, o, es, c, rfl, hc, p0, p1, by simp, c', fr, k1, by omega, by rw [Nat.add_mul]; omega⟩

end Go.Am

namespace Go.Am
open Go Go.RowKit

theorem lt_of_get {α : Type} {l : List α} {g : Nat} {x : α} (h : l[g]? = some x) : g < l.length := by
  rcases Nat.lt_or_ge g l.length with h' | h'
  · exact h'
  · simp [List.getElem?_eq_none h'] at h

/-- A place for an object that comes later. -/
theorem Sim.reserve {w0 : World} {φ : Phi} {σ : ASt} {w : World} (s : Sim w0 φ σ w) :
    Ext φ w ⟨φ.objs ++ [.hole], φ.hi⟩ w ∧ Sim w0 ⟨φ.objs ++ [.hole], φ.hi⟩ (σ ++ [.dead]) w := by
  have x : Ext φ w ⟨φ.objs ++ [.hole], φ.hi⟩ w :=
    ⟨fun g r h => ⟨r, by simpa [List.getElem?_append_left (lt_of_get h)] using h, r.le_refl⟩, fun _ => Nat.le_refl _, fun _ _ _ => rfl⟩
  have old : ∀ (g : Nat) o r, (σ ++ [AObj.dead])[g]? = some o → (φ.objs ++ [ORef.hole])[g]? = some r → (o = .dead ∧ r = .hole) ∨ (σ[g]? = some o ∧ φ.objs[g]? = some r) := by
    intro g o r h1 h2
    rcases Nat.lt_or_ge g σ.length with h' | h'
    · rw [List.getElem?_append_left h'] at h1
      rw [List.getElem?_append_left (s.len ▸ h')] at h2
      exact .inr ⟨h1, h2⟩
    · have hg : g = σ.length := by have := lt_of_get h1; simp at this; omega
      subst hg
      simp at h1
      rw [s.len] at h2; simp at h2
      exact .inl ⟨h1.symm, h2.symm⟩
  refine ⟨x, ⟨by simp [s.len], ?_, ?_, s.hiok, s.frame⟩⟩
  · intro g o r h1 h2
    rcases old g o r h1 h2 with ⟨rfl, rfl⟩ | ⟨h1, h2⟩
    · exact rfl
    · exact (s.obj g o r h1 h2).mono x fun _ _ => ⟨rfl, rfl⟩
  · intro g g' o o' r r' b h1 h2 h3 h4 h5 h6
    rcases old g o r h1 h2 with ⟨rfl, rfl⟩ | ⟨h1, h2⟩
    · simp [owns] at h5
    · rcases old g' o' r' h3 h4 with ⟨rfl, rfl⟩ | ⟨h3, h4⟩
      · simp [owns] at h6
      · exact s.uniq g g' o o' r r' b h1 h2 h3 h4 h5 h6

/-- A new object, in a new block, at a place that was kept for it. -/
theorem Sim.fill {w0 : World} {φ : Phi} {σ : ASt} {w : World} (s : Sim w0 φ σ w) {p : Nat} (hp : σ[p]? = some .dead) (o : AObj) (r : ORef) (ob : Obj) (hi' : Nat → Nat)
    (hh : ∀ b, b ≠ w.heap.size → hi' b = φ.hi b)
    (hio : 0 < hi' w.heap.size → ∃ c el fr, ob = .cells c el fr ∧ hi' w.heap.size ≤ c.size)
    (hown : ∀ b, owns o r = some b → b = w.heap.size)
    (hok : Ext φ w ⟨φ.objs.set p r, hi'⟩ (w.alloc ob) → ObjOk w0 ⟨φ.objs.set p r, hi'⟩ (w.alloc ob) o r) :
    Ext φ w ⟨φ.objs.set p r, hi'⟩ (w.alloc ob) ∧ Sim w0 ⟨φ.objs.set p r, hi'⟩ (σ.set p o) (w.alloc ob) := by
  have hpl : p < φ.objs.length := s.len ▸ lt_of_get hp
  have hph : φ.objs[p]? = some .hole := by
    obtain ⟨r', h1, h2⟩ := s.ref hp
    rw [h1, show r' = .hole from h2]
  have x : Ext φ w ⟨φ.objs.set p r, hi'⟩ (w.alloc ob) := by
    refine ⟨fun g r' h => ?_, fun b => ?_, fun b o ho => ?_⟩
    · by_cases hg : g = p
      · subst hg
        rw [hph] at h; cases h
        exact ⟨r, by simp [hpl], trivial⟩
      · exact ⟨r', by rw [List.getElem?_set_ne (Ne.symm hg)]; exact h, r'.le_refl⟩
    · by_cases hb : b = w.heap.size
      · subst hb; rw [s.hi_new (Nat.le_refl _)]; exact Nat.zero_le _
      · simp [hh b hb]
    · have hb : b < w.heap.size := by
        rcases Nat.lt_or_ge b w.heap.size with h' | h'
        · exact h'
        · rw [s.hi_new h'] at ho; omega
      simp only [World.cell?, heap_alloc_old hb]
  have old : ∀ (g : Nat) o' r', (σ.set p o)[g]? = some o' → (φ.objs.set p r)[g]? = some r' → (g = p ∧ o' = o ∧ r' = r) ∨ (g ≠ p ∧ σ[g]? = some o' ∧ φ.objs[g]? = some r') := by
    intro g o' r' h1 h2
    by_cases hg : g = p
    · subst hg
      simp [hpl, s.len] at h1 h2
      exact .inl ⟨rfl, h1.symm, h2.symm⟩
    · rw [List.getElem?_set_ne (Ne.symm hg)] at h1 h2
      exact .inr ⟨hg, h1, h2⟩
  refine ⟨x, ⟨by simp [s.len], ?_, ?_, ?_, s.frame.alloc (s.frame.size) ob⟩⟩
  · intro g o' r' h1 h2
    rcases old g o' r' h1 h2 with ⟨rfl, rfl, rfl⟩ | ⟨hg, h1, h2⟩
    · exact hok x
    · have k := s.obj g o' r' h1 h2
      refine k.mono x fun b hb => ?_
      have hlt := (owns_lt k hb).1
      exact ⟨heap_alloc_old hlt, hh b (Nat.ne_of_lt hlt)⟩
  · intro g g' o1 o2 r1 r2 b h1 h2 h3 h4 h5 h6
    rcases old g o1 r1 h1 h2 with ⟨e1, e2, e3⟩ | ⟨hg, k1, k2⟩ <;> rcases old g' o2 r2 h3 h4 with ⟨f1, f2, f3⟩ | ⟨hg', k3, k4⟩
    · omega
    · rw [e2, e3] at h5; have := hown b h5; have := (owns_lt (s.obj g' o2 r2 k3 k4) h6).1; omega
    · rw [f2, f3] at h6; have := hown b h6; have := (owns_lt (s.obj g o1 r1 k1 k2) h5).1; omega
    · exact s.uniq g g' o1 o2 r1 r2 b k1 k2 k3 k4 h5 h6
  · intro b hb
    by_cases hbb : b = w.heap.size
    · subst hbb
      obtain ⟨c, el, fr, h1, h2⟩ := hio hb
      exact ⟨c, el, fr, by rw [heap_alloc_new, h1], h2⟩
    · have hb' : 0 < φ.hi b := by rw [← hh b hbb]; exact hb
      obtain ⟨c, el, fr, h1, h2⟩ := s.hiok b hb'
      have hlt : b < w.heap.size := by
        rcases Nat.lt_or_ge b w.heap.size with h' | h'
        · exact h'
        · simp [Array.getElem?_eq_none h'] at h1
      exact ⟨c, el, fr, by rw [heap_alloc_old hlt]; exact h1, by show hi' b ≤ _; rw [hh b hbb]; exact h2⟩

theorem Sim.fillCells {w0 : World} {φ : Phi} {σ : ASt} {w : World} (s : Sim w0 φ σ w) {p : Nat} (hp : σ[p]? = some .dead) (cs : List AVal) (c : Array Value) (el : TypeId) (hl : cs.length = c.size)
    (hv : ∀ (i : Nat) a v, cs[i]? = some a → c[i]? = some v → VR φ w a v) (ho : ∀ v ∈ c.toList, v.oneCell' = true) :
    Ext φ w ⟨φ.objs.set p (.cell w.heap.size c.size), φ.hi⟩ (w.alloc (.cells c el)) ∧ Sim w0 ⟨φ.objs.set p (.cell w.heap.size c.size), φ.hi⟩ (σ.set p (.cells el cs)) (w.alloc (.cells c el)) := by
  refine s.fill hp (.cells el cs) _ _ φ.hi (fun _ _ => rfl) (fun h => ?_) (fun b h => by simp [owns] at h; exact h.symm) (fun x => ?_)
  · rw [s.hi_new (Nat.le_refl _)] at h; omega
  · exact ⟨w.heap.size, c.size, rfl, s.frame.size, s.hi_new (Nat.le_refl _), c, heap_alloc_new _ _, rfl, hl, fun i a v p q => (hv i a v p q).mono x, ho⟩

theorem Sim.fillMap {w0 : World} {φ : Phi} {σ : ASt} {w : World} (s : Sim w0 φ σ w) {p : Nat} (hp : σ[p]? = some .dead) :
    Ext φ w ⟨φ.objs.set p (.map w.heap.size), φ.hi⟩ (w.alloc (.map #[] 0)) ∧ Sim w0 ⟨φ.objs.set p (.map w.heap.size), φ.hi⟩ (σ.set p (.map [])) (w.alloc (.map #[] 0)) := by
  refine s.fill hp (.map []) _ _ φ.hi (fun _ _ => rfl) (fun h => ?_) (fun b h => by simp [owns] at h; exact h.symm) (fun x => ?_)
  · rw [s.hi_new (Nat.le_refl _)] at h; omega
  · exact ⟨w.heap.size, rfl, s.frame.size, s.hi_new (Nat.le_refl _), #[], 0, [], heap_alloc_new _ _, .refl _, ⟨.int, .nil⟩, rfl, fun i p q h => by simp at h⟩

end Go.Am

namespace Go.Am
open Go Go.RowKit

inductive R (α : Type) where
  | ok (a : α) (σ : ASt)
  | panic (v : AVal) (σ : ASt)
  | bad

abbrev M (α : Type) := ASt → R α

def R.bind {α β : Type} (r : R α) (f : α → M β) : R β :=
  match r with
  | .ok a σ => f a σ
  | .panic v σ => .panic v σ
  | .bad => .bad

@[simp] theorem R.bind_ok {α β : Type} (a : α) (σ : ASt) (f : α → M β) : (R.ok a σ).bind f = f a σ := rfl
@[simp] theorem R.bind_panic {α β : Type} (v : AVal) (σ : ASt) (f : α → M β) : (R.panic v σ : R α).bind f = .panic v σ := rfl
@[simp] theorem R.bind_bad {α β : Type} (f : α → M β) : (R.bad : R α).bind f = .bad := rfl

def R.ofOpt {α : Type} (o : Option α) (σ : ASt) : R α := match o with | some a => .ok a σ | none => .bad
@[simp] theorem R.ofOpt_some {α : Type} (a : α) (σ : ASt) : R.ofOpt (some a) σ = .ok a σ := rfl
@[simp] theorem R.ofOpt_none {α : Type} (σ : ASt) : (R.ofOpt none σ : R α) = .bad := rfl

inductive IOpd where
  | t (n : Nat)
  | v (x : AVal)
  | f (f : FuncId)
  | g (n : Nat)
  deriving Inhabited

abbrev Frame := List (Nat × AVal)

def fget : Frame → Nat → AVal
  | [], _ => .undef
  | (i, v) :: l, t => if i = t then v else fget l t

def IOpd.ev (a : Frame) : IOpd → AVal
  | .t n => fget a n
  | .v x => x
  | .f k => .func (.func k) [] []
  | .g n => .gptr n 0

inductive LC where
  | str | slice | map

/-- The kinds of a flat struct's fields. -/
inductive CK where
  | int | str | bool

inductive EqC where
  | bool | ptr | iface | slice | agg (ks : List CK)

/-- Quiet operations: they make nothing and change nothing. -/
inductive QOp where
  | mov (x : IOpd)
  | pick (c x y : IOpd)
  | build (zero : List AVal) (parts : List (Nat × Nat × IOpd))
  | load (n : Option Nat) (p : IOpd)
  | nilc (x : IOpd)
  | bin (op : BinOp) (x y : IOpd)
  | eq (c : EqC) (neg : Bool) (x y : IOpd)
  | un (op : UnOp) (x : IOpd)
  | conv (k : IntKind) (x : IOpd)
  | same (x : IOpd)
  | bstr (x : IOpd)
  | iface (t : TypeId) (x : IOpd)
  | func (fn : Fn) (first cap : List IOpd)
  | slStr (x : IOpd) (lo hi : Option IOpd)
  | slList (es : Nat) (x : IOpd) (lo hi : Option IOpd)
  | slArr (es n : Nat) (x : IOpd) (lo hi : Option IOpd)
  | addr (off : Nat) (x : IOpd)
  | field (n : Option Nat) (off : Nat) (x : IOpd)
  | ixArr (es n : Nat) (x i : IOpd)
  | ixSl (es : Nat) (x i : IOpd)
  | ixVal (es : Option Nat) (n : Nat) (x i : IOpd)
  | ixStr (x i : IOpd)
  | lookup (c : KC) (zero : AVal) (ok : Bool) (m k : IOpd)
  | assert (t : TypeId) (zero : AVal) (x : IOpd)
  | assert1 (t : TypeId) (x : IOpd)
  | extr (i : Nat) (x : IOpd)
  | len (c : LC) (x : IOpd)
  | maxi (x y : IOpd)
  | sdata (x : IOpd)
  | fmt (x : IOpd)
  | toU (x : IOpd)
  | fromU (oks : List (Nat × Nat × Nat)) (x : IOpd)

def cut (n : Option Nat) (cs : List AVal) (off : Nat) : Option AVal :=
  match n with
  | none => cs[off]?
  | some n => if off + n ≤ cs.length then some (.agg ((cs.drop off).take n)) else none

def aload (n : Option Nat) (p : AVal) (σ : ASt) : Option AVal :=
  match p with
  | .ptr g off => match σ[g]? with | some (.cells _ cs) => cut n cs off | _ => none
  | .iptr v off => cut n v.cells off
  | _ => none

def aaddr (off : Nat) : AVal → Option AVal
  | .ptr g o => some (.ptr g (o + off))
  | .iptr v o => some (.iptr v (o + off))
  | .gptr b o => some (.gptr b (o + off))
  | _ => none

/-- Parts of a struct or an array laid over its zero. -/
def lay (zero : List AVal) : List (Nat × Nat × AVal) → Option (List AVal)
  | [] => some zero
  | (off, n, v) :: l => if v.isVal = true ∧ v.cells.length = n ∧ off + n ≤ zero.length then lay (zero.take off ++ v.cells ++ zero.drop (off + n)) l else none

def isBits (k : IntKind) (op : BinOp) (a b : Int) : Int :=
  let x := BitVec.ofInt k.bits a
  let y := BitVec.ofInt k.bits b
  k.wrap (match op with | .and => x &&& y | .or => x ||| y | .xor => x ^^^ y | _ => x &&& ~~~y).toNat

def intBin (op : BinOp) (k : IntKind) (a b : Int) : Option AVal :=
  match op with
  | .add => some (.int k (k.wrap (a + b)))
  | .sub => some (.int k (k.wrap (a - b)))
  | .mul => some (.int k (k.wrap (a * b)))
  | .quo => if b = 0 then none else some (.int k (k.wrap (a.tdiv b)))
  | .rem => if b = 0 then none else some (.int k (a.tmod b))
  | .and | .or | .xor | .andNot => some (.int k (isBits k op a b))
  | .eql => some (.bool (decide (a = b)))
  | .neq => some (.bool (decide (a ≠ b)))
  | .lss => some (.bool (decide (a < b)))
  | .leq => some (.bool (decide (a ≤ b)))
  | .gtr => some (.bool (decide (b < a)))
  | .geq => some (.bool (decide (b ≤ a)))
  | _ => none

def shBin (op : BinOp) (k : IntKind) (a b : Int) : Option AVal :=
  if b < 0 then none else
  match op with
  | .shl => some (.int k (k.wrap (a * 2 ^ min b.toNat k.bits)))
  | .shr => some (.int k (a.fdiv (2 ^ min b.toNat k.bits)))
  | _ => none

def strBin (op : BinOp) (a b : List UInt8) : Option AVal :=
  match op with
  | .add => if a.length + b.length < 2 ^ 62 then some (.str (a ++ b)) else none
  | .eql => some (.bool (decide (a = b)))
  | .neq => some (.bool (decide (a ≠ b)))
  | _ => none

def cellsEq : List AVal → List AVal → Option Bool
  | [], [] => some true
  | a :: l, b :: m => match cellEq a b, cellsEq l m with | some x, some y => some (x && y) | _, _ => none
  | _, _ => none

def ckOk : CK → AVal → Bool
  | .int, .int _ _ | .str, .str _ | .bool, .bool _ => true
  | _, _ => false

def cksOk : List CK → List AVal → Bool
  | [], [] => true
  | k :: ks, v :: vs => ckOk k v && cksOk ks vs
  | _, _ => false

def aeq : EqC → AVal → AVal → Option Bool
  | .bool, .bool a, .bool b => some (decide (a = b))
  | .ptr, .nilptr, .nilptr => some true
  | .ptr, .nilptr, .ptr _ _ | .ptr, .ptr _ _, .nilptr | .ptr, .nilptr, .iptr _ _ | .ptr, .iptr _ _, .nilptr => some false
  | .ptr, .ptr g o, .ptr g' o' => if g = g' then some (decide (o = o')) else none
  | .iface, .nilIface, .nilIface => some true
  | .iface, .nilIface, .iface _ _ | .iface, .iface _ _, .nilIface => some false
  | .slice, .nilslice, .nilslice => some true
  | .slice, .nilslice, .list _ _ _ | .slice, .list _ _ _, .nilslice | .slice, .nilslice, .mslice _ _ _ _ | .slice, .mslice _ _ _ _, .nilslice => some false
  | .agg ks, .agg a, .agg b => if cksOk ks a = true ∧ cksOk ks b = true then cellsEq a b else none
  | _, _, _ => none

def abin (op : BinOp) (x y : AVal) : Option AVal :=
  match x, y with
  | .int k a, .int k' b =>
    match op with
    | .shl | .shr => shBin op k a b
    | _ => if k = k' then intBin op k a b else none
  | .str a, .str b => strBin op a b
  | _, _ => none

def aeqn (c : EqC) (neg : Bool) (x y : AVal) : Option AVal := (aeq c x y).map fun b => .bool (if neg then !b else b)

def aun (op : UnOp) (x : AVal) : Option AVal :=
  match op, x with
  | .neg, .int k n => some (.int k (k.wrap (0 - n)))
  | .xor, .int k n => some (.int k (isBits k .xor (if k.signed then -1 else k.max) n))
  | .not, .bool b => some (.bool (!b))
  | _, _ => none

/-- A list of bytes as a text. -/
def bytesOf : List AVal → Option (List UInt8)
  | [] => some []
  | .int .u8 n :: l => (bytesOf l).map (UInt8.ofNat n.toNat :: ·)
  | _ => none

def bound (d : Int) (x : Option AVal) : Option Int :=
  match x with
  | none => some d
  | some (.int _ n) => some n
  | _ => none

def aslStr (x : AVal) (lo hi : Option AVal) : Option AVal :=
  match x with
  | .str s =>
    match bound 0 lo, bound s.length hi with
    | some l, some h => if 0 ≤ l ∧ l ≤ h ∧ h ≤ s.length then some (.str ((s.drop l.toNat).take (h - l).toNat)) else none
    | _, _ => none
  | _ => none

/-- A part of a slice: the right to append goes with its end. -/
def aslList (es : Nat) (x : AVal) (lo hi : Option AVal) : Option AVal :=
  match x with
  | .list _ es' s =>
    match bound 0 lo, bound s.length hi with
    | some l, some h => if es = es' ∧ 0 ≤ l ∧ l ≤ h ∧ h ≤ s.length then some (.list none es ((s.drop l.toNat).take (h - l).toNat)) else none
    | _, _ => none
  | .nilslice =>
    match bound 0 lo, bound 0 hi with
    | some l, some h => if l = 0 ∧ h = 0 then some .nilslice else none
    | _, _ => none
  | _ => none

def aixArr (es n : Nat) (x i : AVal) : Option AVal :=
  match i with
  | .int _ i => if 0 ≤ i ∧ i < n then aaddr (i.toNat * es) x else none
  | _ => none

def aixSl (es : Nat) (x i : AVal) : Option AVal :=
  match x, i with
  | .list _ es' l, .int _ i => if 0 ≤ i ∧ es = es' then l[i.toNat]?.map fun v => .iptr v 0 else none
  | .mslice g es' off len, .int _ i => if 0 ≤ i ∧ i < len ∧ es = es' then some (.ptr g ((off + i.toNat) * es)) else none
  | _, _ => none

def aixVal (es : Option Nat) (n : Nat) (x i : AVal) : Option AVal :=
  match x, i with
  | .agg cs, .int _ i => if 0 ≤ i ∧ i < n then cut es cs (i.toNat * es.getD 1) else none
  | _, _ => none

def aixStr (x i : AVal) : Option AVal :=
  match x, i with
  | .str s, .int _ i => if 0 ≤ i then s[i.toNat]?.map fun b => .int .u8 b.toNat else none
  | _, _ => none

def findKey (c : KC) (k : AVal) : List (AVal × AVal) → Option (Option AVal)
  | [] => some none
  | e :: l => match keyEq c k e.1 with
    | some true => some (some e.2)
    | some false => findKey c k l
    | none => none

def putBack (c : KC) (k v : AVal) : List (AVal × AVal) → Option (List (AVal × AVal))
  | [] => some [(k, v)]
  | e :: l => match keyEq c k e.1 with
    | some true => some ((k, v) :: l)
    | some false => (putBack c k v l).map (e :: ·)
    | none => none

def putFront (c : KC) (k v : AVal) (es : List (AVal × AVal)) : Option (List (AVal × AVal)) :=
  match findKey c k es with
  | some none => some ((k, v) :: es)
  | some (some _) => putBack c k v es
  | none => none

/-- An entry of a map's. A 'false' goes ahead of what is there, so that the order of a 'true' and a 'false' is no matter. -/
def putKey (c : KC) (k v : AVal) (es : List (AVal × AVal)) : Option (List (AVal × AVal)) :=
  match k with
  | .bool false => putFront c k v es
  | _ => putBack c k v es

def keyOk (c : KC) (k : AVal) : Bool := (keyEq c k k).isSome

def alookup (c : KC) (zero : AVal) (ok : Bool) (m k : AVal) (σ : ASt) : Option AVal :=
  if keyOk c k = false then none else
  match m with
  | .map g => match σ[g]? with
    | some (.map es) => match findKey c k es with
      | some (some v) => some (if ok then .tuple [v, .bool true] else v)
      | some none => some (if ok then .tuple [zero, .bool false] else zero)
      | none => none
    | _ => none
  | _ => none

def aassert (t : TypeId) (zero x : AVal) : Option AVal :=
  match x with
  | .nilIface => some (.tuple [zero, .bool false])
  | .iface u v => some (if u = t then .tuple [v, .bool true] else .tuple [zero, .bool false])
  | _ => none

def aassert1 (t : TypeId) (x : AVal) : Option AVal :=
  match x with
  | .iface u v => if u = t then some v else none
  | _ => none

def alen (c : LC) (x : AVal) (σ : ASt) : Option AVal :=
  match c, x with
  | .str, .str s => some (.int .i64 s.length)
  | .slice, .nilslice => some (.int .i64 0)
  | .slice, .list _ _ l => some (.int .i64 l.length)
  | .slice, .mslice _ _ _ n => some (.int .i64 n)
  | .map, .nilmap => some (.int .i64 0)
  | .map, .map g => match σ[g]? with | some (.map es) => some (.int .i64 es.length) | _ => none
  | _, _ => none

def aslArr (es n : Nat) (x : AVal) (σ : ASt) : Option AVal :=
  match x with
  | .ptr g off => match σ[g]? with
    | some (.cells _ cs) => if off % es = 0 ∧ 0 < es ∧ off + n * es ≤ cs.length then some (.mslice g es (off / es) n) else none
    | _ => none
  | _ => none

def pck (c x y : AVal) : Option AVal := match c with | .bool b => some (if b then x else y) | _ => none
def anilc (v : AVal) : Option AVal := match v with | .ptr g o => some (.ptr g o) | .iptr v o => some (.iptr v o) | .gptr b o => some (.gptr b o) | _ => none
def aconv (k : IntKind) (v : AVal) : Option AVal := match v with | .int _ n => some (.int k (k.wrap n)) | _ => none
def asame (v : AVal) : Option AVal := match v with | .str s => some (.str s) | _ => none
def abstr (x : AVal) : Option AVal := match x with | .nilslice => some (.str []) | .list _ 1 l => (bytesOf l).map .str | _ => none
def afield (n : Option Nat) (off : Nat) (v : AVal) : Option AVal := match v with | .agg cs => cut n cs off | _ => none
def aextr (i : Nat) (v : AVal) : Option AVal := match v with | .tuple vs => vs[i]? | _ => none
def amaxi (x y : AVal) : Option AVal := match x, y with | .int k m, .int k' n => if k = k' then some (.int k (if m < n then n else m)) else none | _, _ => none
def asdata (x : AVal) : Option AVal := match x with | .nilslice => some .nilptr | .list t es (v :: l) => some (.dptr (.list t es (v :: l))) | _ => none

/-- A pointer into an object as an unsafe one. -/
def atoU (x : AVal) (σ : ASt) : Option AVal :=
  match x with
  | .ptr g off => match σ[g]? with
    | some (.cells _ cs) => if off < cs.length then some (.ptr g off) else none
    | _ => none
  | _ => none

/-- An unsafe pointer as a pointer to what lies there: at a place of a type's where such a thing lies. -/
def afromU (oks : List (Nat × Nat × Nat)) (x : AVal) (σ : ASt) : Option AVal :=
  match x with
  | .ptr g off => match σ[g]? with
    | some (.cells t cs) => if oks.contains (t, cs.length, off) then some (.ptr g off) else none
    | _ => none
  | _ => none

/-- A number in decimal digits. -/
def afmt (x : AVal) : Option AVal := match x with | .int .i64 n => if -9223372036854775808 ≤ n ∧ n ≤ 9223372036854775807 then some (.str (Lib.itoa n)) else none | _ => none

def QOp.ev (q : QOp) (a : Frame) (σ : ASt) : Option AVal :=
  match q with
  | .mov x => some (x.ev a)
  | .same x => asame (x.ev a)
  | .pick c x y => pck (c.ev a) (x.ev a) (y.ev a)
  | .build zero parts => (lay zero (parts.map fun (o, n, x) => (o, n, x.ev a))).map .agg
  | .load n p => aload n (p.ev a) σ
  | .nilc x => anilc (x.ev a)
  | .bin op x y => abin op (x.ev a) (y.ev a)
  | .eq c neg x y => aeqn c neg (x.ev a) (y.ev a)
  | .un op x => aun op (x.ev a)
  | .conv k x => aconv k (x.ev a)
  | .bstr x => abstr (x.ev a)
  | .iface t x => some (.iface t (x.ev a))
  | .func fn first cap => some (.func fn (first.map (·.ev a)) (cap.map (·.ev a)))
  | .slStr x lo hi => aslStr (x.ev a) (lo.map (·.ev a)) (hi.map (·.ev a))
  | .slList es x lo hi => aslList es (x.ev a) (lo.map (·.ev a)) (hi.map (·.ev a))
  | .slArr es n x lo hi => match lo, hi with | none, none => aslArr es n (x.ev a) σ | _, _ => none
  | .addr off x => aaddr off (x.ev a)
  | .field n off x => afield n off (x.ev a)
  | .ixArr es n x i => aixArr es n (x.ev a) (i.ev a)
  | .ixSl es x i => aixSl es (x.ev a) (i.ev a)
  | .ixVal es n x i => aixVal es n (x.ev a) (i.ev a)
  | .ixStr x i => aixStr (x.ev a) (i.ev a)
  | .lookup c zero ok m k => alookup c zero ok (m.ev a) (k.ev a) σ
  | .assert t zero x => aassert t zero (x.ev a)
  | .assert1 t x => aassert1 t (x.ev a)
  | .extr i x => aextr i (x.ev a)
  | .len c x => alen c (x.ev a) σ
  | .maxi x y => amaxi (x.ev a) (y.ev a)
  | .sdata x => asdata (x.ev a)
  | .fmt x => afmt (x.ev a)
  | .toU x => atoU (x.ev a) σ
  | .fromU oks x => afromU oks (x.ev a) σ

/-- Operations that make or change something. -/
inductive EOp where
  | alloc (t : TypeId) (zero : List AVal)
  | box (t : TypeId) (x : IOpd)
  | bslice (el : TypeId) (es n : Nat) (zero : List AVal) (parts : List (Nat × Nat × IOpd))
  | mkmap
  | mkslice (el : TypeId) (es : Nat) (zero : List AVal) (x : IOpd)
  | store (n : Nat) (p x : IOpd)
  | mapupd (c : KC) (m k x : IOpd)
  | append (el : TypeId) (es bytes : Nat) (s x : IOpd)
  | copy (es : Nat) (s x : IOpd)
  | ustr (el : TypeId) (p n : IOpd)
  | call (f : FuncId) (args : List IOpd)
  | callv (x : IOpd) (args : List IOpd)
  | panic (x : IOpd)
  | set (x : IOpd)
  | res (k : Nat)
  | fillA (j : Nat) (t : TypeId) (zero : List AVal)
  | fillS (j : Nat) (el : TypeId) (es : Nat) (zero : List AVal) (x : IOpd)
  | fillM (j : Nat)

def put (σ : ASt) (g off : Nat) (vs : List AVal) : R AVal :=
  match σ[g]? with
  | some (.cells t cs) => if off + vs.length ≤ cs.length then .ok .undef (σ.set g (.cells t (cs.take off ++ vs ++ cs.drop (off + vs.length)))) else .bad
  | _ => .bad

def astore (n : Nat) (p x : AVal) : M AVal := fun σ =>
  match p with
  | .ptr g off => if x.isVal = true ∧ x.cells.length = n then put σ g off x.cells else .bad
  | _ => .bad

def amapupd (c : KC) (m k x : AVal) : M AVal := fun σ =>
  if keyOk c k = false then .bad else
  match m with
  | .map g => match σ[g]? with
    | some (.map es) => match putKey c k x es with | some es' => .ok .undef (σ.set g (.map es')) | none => .bad
    | _ => .bad
  | _ => .bad

/-- A slice's elements; of a text its bytes. -/
def elems (es : Nat) : AVal → Option (List AVal)
  | .nilslice => some []
  | .list _ es' l => if es = es' then some l else none
  | .str s => if es = 1 then some (s.map fun b => .int .u8 b.toNat) else none
  | _ => none

def aappend (el : TypeId) (es bytes : Nat) (s x : AVal) : M AVal := fun σ =>
  match elems es x with
  | none => .bad
  | some xs =>
    if xs.isEmpty then (match s with | .nilslice => .ok s σ | .list _ es' _ => if es = es' then .ok s σ else .bad | _ => .bad) else
    match s with
    | .nilslice => if xs.length * bytes < 2 ^ 46 then .ok (.list (some σ.length) es xs) (σ ++ [.tok xs.length el]) else .bad
    | .list (some k) es' l =>
      match σ[k]? with
      | some (.tok n el') => if n = l.length ∧ es = es' ∧ el = el' ∧ (l.length + xs.length) * bytes < 2 ^ 46 then .ok (.list (some k) es (l ++ xs)) (σ.set k (.tok (l.length + xs.length) el)) else .bad
      | _ => .bad
    | _ => .bad

def acopy (es : Nat) (s x : AVal) : M AVal := fun σ =>
  match elems es x, s with
  | some xs, .mslice g es' off len =>
    let n := min xs.length len
    if es = es' then (put σ g (off * es) ((xs.take n).flatMap AVal.cells)).bind fun _ => .ok (.int .i64 n) else .bad
  | _, _ => .bad

/-- A slice's bytes as a text that shares them: from then on they are never written. -/
def austr (el : TypeId) (p n : AVal) (σ : ASt) : R AVal :=
  match p, n with
  | .nilptr, .int _ m => if m = 0 then .ok (.str []) σ else .bad
  | .dptr (.list (some k) 1 l), .int _ m =>
    match σ[k]?, bytesOf l with
    | some (.tok n el'), some bs => if m = l.length ∧ 0 < l.length ∧ l.length < 2 ^ 62 ∧ n = l.length ∧ el = el' then .ok (.str bs) σ else .bad
    | _, _ => .bad
  | _, _ => .bad

/-- n elements, each with the cells of a zero. -/
def zeros (zero : List AVal) : Nat → List AVal
  | 0 => []
  | n + 1 => zero ++ zeros zero n

/-- A row of cells as elements of a size. -/
def chunks (es : Nat) : Nat → List AVal → List AVal
  | 0, _ => []
  | n + 1, cs => (if es = 1 then cs.headD .undef else .agg (cs.take es)) :: chunks es n (cs.drop es)

def amkslice (el : TypeId) (es : Nat) (zero : List AVal) (x : AVal) : M AVal := fun σ =>
  match x with
  | .int _ n => if 0 ≤ n ∧ n < 2 ^ 40 then .ok (.mslice σ.length es 0 n.toNat) (σ ++ [.cells el (zeros zero n.toNat)]) else .bad
  | _ => .bad

def acallv (call : FuncId → List AVal → M AVal) (v : AVal) (args : List AVal) (σ : ASt) : R AVal := match v with | .func (.func f) first cap => call f (first ++ args ++ cap) σ | _ => .bad
def abslice (el : TypeId) (es n : Nat) (o : Option (List AVal)) (σ : ASt) : R AVal := match o with
  | some cs => .ok (.list (some σ.length) es (chunks es n cs)) (σ ++ [.tok n el])
  | none => .bad
def abox (t : TypeId) (v : AVal) (σ : ASt) : R AVal := if v.isVal = true then .ok (.ptr σ.length 0) (σ ++ [.cells t v.cells]) else .bad
def apanic (v : AVal) (σ : ASt) : R AVal := match v with | .iface t v => .panic (.iface t v) σ | _ => .bad

/-- An object at a place that was kept for it, the j-th from the end. -/
def afill (j : Nat) (o : AObj) (v : Nat → AVal) (σ : ASt) : R AVal :=
  match σ[σ.length - j]? with
  | some .dead => .ok (v (σ.length - j)) (σ.set (σ.length - j) o)
  | _ => .bad

def afillS (j : Nat) (el : TypeId) (es : Nat) (zero : List AVal) (x : AVal) (σ : ASt) : R AVal :=
  match x with
  | .int _ n => if 0 ≤ n ∧ n < 2 ^ 40 then afill j (.cells el (zeros zero n.toNat)) (fun g => .mslice g es 0 n.toNat) σ else .bad
  | _ => .bad

def EOp.ev (call : FuncId → List AVal → M AVal) (e : EOp) (a : Frame) : M AVal := fun σ =>
  match e with
  | .alloc t zero => .ok (.ptr σ.length 0) (σ ++ [.cells t zero])
  | .box t x => abox t (x.ev a) σ
  | .bslice el es n zero parts => abslice el es n (lay (zeros zero n) (parts.map fun (o, n, x) => (o, n, x.ev a))) σ
  | .mkmap => .ok (.map σ.length) (σ ++ [.map []])
  | .mkslice el es zero x => amkslice el es zero (x.ev a) σ
  | .store n p x => astore n (p.ev a) (x.ev a) σ
  | .mapupd c m k x => amapupd c (m.ev a) (k.ev a) (x.ev a) σ
  | .append el es bytes s x => aappend el es bytes (s.ev a) (x.ev a) σ
  | .copy es s x => acopy es (s.ev a) (x.ev a) σ
  | .ustr el p n => austr el (p.ev a) (n.ev a) σ
  | .call f args => call f (args.map (·.ev a)) σ
  | .callv x args => acallv call (x.ev a) (args.map (·.ev a)) σ
  | .panic x => apanic (x.ev a) σ
  | .set x => .ok (x.ev a) σ
  | .res k => .ok .undef (σ ++ List.replicate k .dead)
  | .fillA j t zero => afill j (.cells t zero) (fun g => .ptr g 0) σ
  | .fillS j el es zero x => afillS j el es zero (x.ev a) σ
  | .fillM j => afill j (.map []) (fun g => .map g) σ

inductive Act1 where
  | q (op : QOp)
  | e (op : EOp) (pend : List (Nat × QOp))

/-- One operation: where it puts its value, under which condition it is done. -/
structure IOper where
  dst : Option Nat
  act : Act1
  guard : Option (Nat × Bool) := none

def fput (a : Frame) (d : Option Nat) (v : AVal) : Frame := match d with | some d => (d, v) :: a | none => a

inductive AExit where
  | norm
  | ret
  | exit (id : Nat)
  | panic (v : AVal)

open Classical in
/-- Behind a change: what was read ahead of it reads as it did. -/
noncomputable def stands (pend : List (Nat × QOp)) (a : Frame) (σ : ASt) : Bool := pend.all fun p => decide (p.2.ev a σ = some (fget a p.1))

noncomputable def IOper.go (call : FuncId → List AVal → M AVal) (o : IOper) (a : Frame) (K : Frame → M (AExit × Frame)) : M (AExit × Frame) := fun σ =>
  match o.act with
  | .q op => match op.ev a σ with | some v => K (fput a o.dst v) σ | none => .bad
  | .e op pend => match op.ev call a σ with
    | .ok v σ' => if stands pend a σ' then K (fput a o.dst v) σ' else .bad
    | .panic v σ' => .ok (.panic v, a) σ'
    | .bad => .bad

noncomputable def IOper.ev (call : FuncId → List AVal → M AVal) (o : IOper) (a : Frame) (K : Frame → M (AExit × Frame)) : M (AExit × Frame) := fun σ =>
  match o.guard with
  | none => o.go call a K σ
  | some (t, want) => match fget a t with
    | .bool b => if b = want then o.go call ((t, .bool b) :: a) K σ else K (fput ((t, .bool b) :: a) o.dst (.tuple [])) σ
    | .tuple [] => K (fput a o.dst (.tuple [])) σ
    | _ => .bad

/-- Where the quiet ones among some operations put their values. -/
def qdsts : List IOper → List Nat
  | [] => []
  | ⟨some d, .q _, _⟩ :: l => d :: qdsts l
  | _ :: l => qdsts l

/-- What of a frame is known when a region is left by a panic: not what is put by the region's quiet operations. -/
def unq (ls : List IOper) (e : AExit) (a : Frame) : Frame :=
  match e with
  | .panic _ => a.filter fun p => !(qdsts ls).contains p.1
  | _ => a

theorem fget_filter (f : Nat → Bool) : ∀ (a : Frame) (t : Nat), fget (a.filter fun p => f p.1) t = if f t then fget a t else .undef
  | [], t => by simp [fget]
  | (i, v) :: a, t => by
    rw [List.filter_cons]
    by_cases hi : f i
    · simp only [hi, if_true, fget]
      rw [fget_filter f a t]
      by_cases e : i = t
      · subst e; simp [hi]
      · simp [e]
    · simp only [hi, Bool.false_eq_true, if_false]
      rw [fget_filter f a t]
      by_cases e : i = t
      · subst e; simp [hi]
      · simp [fget, e]

theorem fget_unq (ls : List IOper) (v : AVal) (a : Frame) (t : Nat) : fget (unq ls (.panic v) a) t = if t ∈ qdsts ls then .undef else fget a t := by
  unfold unq
  rw [fget_filter (fun i => !(qdsts ls).contains i)]
  by_cases h : t ∈ qdsts ls <;> simp [h]

noncomputable def evOps (call : FuncId → List AVal → M AVal) : List IOper → Frame → M (AExit × Frame)
  | [], a => fun σ => .ok (.norm, a) σ
  | o :: l, a => o.ev call a (evOps call l)

inductive ICode where
  | skip
  | ops (l : List IOper) (live : List Nat)
  | defer (x : IOpd) (args : List IOpd)
  | seq (x y : ICode)
  | cond (c : IOpd) (x y : ICode)
  | block (id : Nat) (x : ICode)
  | loop (live : List Nat) (x : ICode)
  | exit (id : Nat)
  | ret

def restrict (live : List Nat) (a : Frame) : Frame := live.map fun i => (i, fget a i)

structure AAct where
  a : Frame
  d : List (AVal × List AVal)

def thenM (x : R (AExit × AAct)) (f : AAct → M (AExit × AAct)) : R (AExit × AAct) :=
  match x with
  | .ok (.norm, a) σ => f a σ
  | r => r

noncomputable def loopN (body : AAct → M (AExit × AAct)) : Nat → AAct → M (AExit × AAct)
  | 0, _ => fun _ => .bad
  | n + 1, a => fun σ => thenM (body a σ) (loopN body n)

def blockM (id : Nat) (x : R (AExit × AAct)) : R (AExit × AAct) :=
  match x with
  | .ok (.exit i, a) σ => if i = id then .ok (.norm, a) σ else .ok (.exit i, a) σ
  | r => r

def opsM (ls : List IOper) (live : List Nat) (d : List (AVal × List AVal)) (x : R (AExit × Frame)) : R (AExit × AAct) :=
  match x with
  | .ok (.norm, a) σ => .ok (.norm, ⟨restrict live a, d⟩) σ
  | .ok (e, a) σ => .ok (e, ⟨unq ls e a, d⟩) σ
  | .panic v σ => .panic v σ
  | .bad => .bad

noncomputable def ICode.ev (n : Nat) (call : FuncId → List AVal → M AVal) : ICode → AAct → M (AExit × AAct)
  | .skip, a => fun σ => .ok (.norm, a) σ
  | .ops l live, a => fun σ => opsM l live a.d (evOps call l a.a σ)
  | .defer x args, a => fun σ => match x.ev a.a with
    | .func fn first cap => .ok (.norm, ⟨a.a, (.func fn first cap, args.map (·.ev a.a)) :: a.d⟩) σ
    | _ => .bad
  | .seq x y, a => fun σ => thenM (x.ev n call a σ) (y.ev n call)
  | .cond c x y, a => fun σ => match c.ev a.a with
    | .bool b => if b then x.ev n call a σ else y.ev n call a σ
    | _ => .bad
  | .block id x, a => fun σ => blockM id (x.ev n call a σ)
  | .loop live x, a => loopN (fun a => x.ev n call ⟨restrict live a.a, a.d⟩) n a
  | .exit id, a => fun σ => .ok (.exit id, a) σ
  | .ret, a => fun σ => .ok (.ret, a) σ

inductive IRes where
  | slot (t : Nat)
  | cell (t : Nat) (n : Option Nat)

structure IFunc where
  body : ICode
  res : List IRes

/-- How a function is left: 'none': it answers; else it panics. -/
abbrev Mode := Option AVal

abbrev DPrim := FuncId → Option (List AVal → Mode → M Mode)

noncomputable def runD (dp : DPrim) : List (AVal × List AVal) → Mode → M Mode
  | [], m => fun σ => .ok m σ
  | (f, args) :: ds, m => fun σ =>
    match f with
    | .func (.func k) first cap => match dp k with
      | some p => match p (first ++ args ++ cap) m σ with
        | .ok m' σ' => runD dp ds m' σ'
        | _ => .bad
      | none => .bad
    | _ => .bad

def IRes.ev (a : Frame) (σ : ASt) : IRes → Option AVal
  | .slot t => some (fget a t)
  | .cell t n => aload n (fget a t) σ

def resOf (rs : List IRes) (a : Frame) (σ : ASt) : Option AVal :=
  match rs with
  | [r] => r.ev a σ
  | rs => (rs.mapM fun r => IRes.ev a σ r).map .tuple

def enter (args : List AVal) : Frame := args.zipIdx.map fun (v, i) => (i, v)

def leave (rs : List IRes) (a : Frame) (m : Mode) : M AVal := fun σ =>
  match m with
  | none => R.ofOpt (resOf rs a σ) σ
  | some v => .panic v σ

noncomputable def bodyM (dp : DPrim) (rs : List IRes) (r : R (AExit × AAct)) : R AVal :=
  match r with
  | .ok (.norm, a) σ | .ok (.ret, a) σ => (runD dp a.d none σ).bind fun m => leave rs a.a m
  | .ok (.panic v, a) σ => (runD dp a.d (some v) σ).bind fun m => leave rs a.a m
  | _ => .bad

structure Env where
  fns : FuncId → Option IFunc
  prim : FuncId → Option (List AVal → M AVal)
  dp : DPrim

/-- A call of a function, with fuel n. -/
noncomputable def evF (E : Env) : Nat → FuncId → List AVal → M AVal
  | 0, _, _ => fun _ => .bad
  | n + 1, f, args => fun σ =>
    match E.prim f with
    | some p => p args σ
    | none => match E.fns f with
      | some fn => bodyM E.dp fn.res (fn.body.ev n (evF E n) ⟨enter args, []⟩ σ)
      | none => .bad

end Go.Am

