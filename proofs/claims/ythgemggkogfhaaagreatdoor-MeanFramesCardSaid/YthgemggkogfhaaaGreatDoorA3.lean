/-
  Quiet operations are sound (1). Conditions: none.
-/
import Derived.Test.YthgemggkogfhaaaGreatDoorA1
import Derived.Test.YthgemggkogfhaaaGreatDoorA2
import Derived.Laws.Strings
namespace Go.Am
open Go Go.RowKit

def FR (φ : Phi) (w : World) (a : Frame) (tmps : Array Value) : Prop := ∀ t, VR φ w (fget a t) (tmps.getD t undef)

theorem FR.mono {φ φ' : Phi} {w w' : World} (x : Ext φ w φ' w') {a : Frame} {ts : Array Value} (h : FR φ w a ts) : FR φ' w' a ts := fun t => (h t).mono x

theorem VRs.nil {φ : Phi} {w : World} : VRs φ w [] [] := ⟨rfl, fun _ _ _ h => by simp at h⟩
theorem VRs.cons {φ : Phi} {w : World} {a : AVal} {v : Value} {as : List AVal} {vs : List Value} (h : VR φ w a v) (k : VRs φ w as vs) : VRs φ w (a :: as) (v :: vs) := by
  refine ⟨by simp [k.1], fun i x y hx hy => ?_⟩
  cases i with
  | zero => simp at hx hy; subst hx hy; exact h
  | succ i => simp at hx hy; exact k.2 i x y hx hy
theorem VRs.inv_cons {φ : Phi} {w : World} {a : AVal} {as : List AVal} {vs : List Value} (h : VRs φ w (a :: as) vs) : ∃ v vs', vs = v :: vs' ∧ VR φ w a v ∧ VRs φ w as vs' := by
  obtain ⟨hl, h⟩ := h
  cases vs with
  | nil => simp at hl
  | cons v vs => exact ⟨v, vs, rfl, h 0 a v rfl rfl, by simpa using hl, fun i x y hx hy => h (i + 1) x y (by simpa using hx) (by simpa using hy)⟩
theorem VRs.append {φ : Phi} {w : World} {as bs : List AVal} {vs us : List Value} (h : VRs φ w as vs) (k : VRs φ w bs us) : VRs φ w (as ++ bs) (vs ++ us) := by
  refine ⟨by simp [h.1, k.1], fun i x y hx hy => ?_⟩
  rw [List.getElem?_append] at hx hy
  rw [← h.1] at hy
  split at hx
  · rename_i hi; rw [if_pos hi] at hy; exact h.2 _ _ _ hx hy
  · rename_i hi; rw [if_neg hi] at hy; exact k.2 _ _ _ hx hy
theorem VRs.take {φ : Phi} {w : World} {as : List AVal} {vs : List Value} (h : VRs φ w as vs) (n : Nat) : VRs φ w (as.take n) (vs.take n) := by
  refine ⟨by simp [h.1], fun i x y hx hy => ?_⟩
  rw [List.getElem?_take] at hx hy
  split at hx
  · rename_i hi; rw [if_pos hi] at hy; exact h.2 _ _ _ hx hy
  · cases hx
theorem VRs.drop {φ : Phi} {w : World} {as : List AVal} {vs : List Value} (h : VRs φ w as vs) (n : Nat) : VRs φ w (as.drop n) (vs.drop n) := by
  refine ⟨by simp [h.1], fun i x y hx hy => ?_⟩
  rw [List.getElem?_drop] at hx hy
  exact h.2 _ _ _ hx hy

theorem r_info {P : Program} {t : TypeId} {i : TypeInfo} (h : P.info? t = some i) (w : World) : (typeInfo t).run P w = .ok i w := by simp [typeInfo, h]
theorem r_und {P : Program} {t : TypeId} {d : TypeDesc} (h : P.underlying t = some d) (w : World) : (underlying t).run P w = .ok d w := by simp [underlying, h]
theorem r_size {P : Program} {t : TypeId} {n : Nat} (h : szOf P t = some n) (w : World) : (sizeOf t).run P w = .ok n w := by
  unfold szOf at h
  cases hi : P.info? t with
  | none => simp [hi] at h
  | some i => simp [hi] at h; simp [sizeOf, r_info hi, h]
theorem r_shp_none {P : Program} {t : TypeId} (h : shp P t = some none) (w : World) : (isAgg t).run P w = .ok false w := by
  unfold shp at h
  cases hd : P.underlying t with
  | none => simp [hd] at h
  | some d =>
    simp only [isAgg, Sem.run_bind, r_und hd, Result.andThen_ok]
    cases hi : P.info? t with
    | none => simp [hd, hi] at h
    | some i => cases d <;> simp_all
theorem r_shp_some {P : Program} {t : TypeId} {n : Nat} (h : shp P t = some (some n)) (w : World) : (isAgg t).run P w = .ok true w ∧ (sizeOf t).run P w = .ok n w := by
  unfold shp at h
  split at h <;> simp at h
  · rename_i fs i h1 h2
    exact ⟨by simp [isAgg, r_und h1], by simp [sizeOf, r_info h2, h]⟩
  · rename_i k e i h1 h2
    exact ⟨by simp [isAgg, r_und h1], by simp [sizeOf, r_info h2, h]⟩

theorem cval_ok (φ : Phi) (w : World) : ∀ (n : Nat) (v : Value) (x : AVal), cval n v = some x → VR φ w x v
  | 0, _, _, h => by simp [cval] at h
  | n + 1, v, x, h => by
    cases v <;> simp only [cval] at h
    case bool b => cases h; exact .bool b
    case int k m => cases h; exact .int k m
    case float => simp at h
    case complex => simp at h
    case string s =>
      cases h
      have := VR.str (φ := φ) (w := w) s.data.toList
      simpa using this
    case pointer a => cases a <;> simp at h; cases h; exact .nilptr
    case slice a l c =>
      split at h <;> simp_all
      cases h; exact .nilslice
    case map r => cases r <;> simp at h; cases h; exact .nilmap
    case chan => simp at h
    case func => simp at h
    case nilFunc => cases h; exact .nilfunc
    case iface => simp at h
    case nilIface => cases h; exact .nilIface
    case tuple => simp at h
    case agg cs =>
      split at h <;> simp at h
      rename_i ho
      obtain ⟨as, h1, rfl⟩ := h
      have key : ∀ (l : List Value) (as : List AVal), l.mapM (cval n) = some as → VRs φ w as l := by
        intro l
        induction l with
        | nil => intro as h; simp at h; subst h; exact .nil
        | cons v l ih =>
          intro as h
          simp only [List.mapM_cons, Option.pure_def, Option.bind_eq_bind, Option.bind_eq_some_iff] at h
          obtain ⟨a, ha, bs, hb, e⟩ := h
          simp at e; subst e
          exact .cons (cval_ok φ w n v a ha) (ih bs hb)
      have := key cs.toList as h1
      have r := VR.agg as cs.toList (φ := φ) (w := w) this.1 (List.all_eq_true.1 ho) this.2
      simpa using r

theorem cv_ok {φ : Phi} {w : World} {v : Value} {x : AVal} (h : cv v = some x) : VR φ w x v := cval_ok φ w 2 v x h

theorem opd_ok {φ : Phi} {w : World} {a : Frame} {ac : Act} (fr : FR φ w a ac.tmps) {x : Operand} {y : IOpd} (h : trOpd x = some y) : VR φ w (y.ev a) (ac.eval x) := by
  cases x <;> simp [trOpd] at h
  · subst h; exact fr _
  · obtain ⟨v, hv, rfl⟩ := h; exact cv_ok hv
  · subst h
    exact VR.func (φ := φ) (w := w) (.func ‹FuncId›) [] [] [] [] rfl rfl (by simp) (by simp)

theorem opds_ok {φ : Phi} {w : World} {a : Frame} {ac : Act} (fr : FR φ w a ac.tmps) {xs : Array Operand} {ys : List IOpd} (h : trOpds xs = some ys) : VRs φ w (ys.map (·.ev a)) (xs.toList.map ac.eval) := by
  unfold trOpds at h
  generalize xs.toList = l at h
  induction l generalizing ys with
  | nil => simp at h; subst h; exact .nil
  | cons x l ih =>
    simp only [List.mapM_cons, Option.pure_def, Option.bind_eq_bind, Option.bind_eq_some_iff] at h
    obtain ⟨y, hy, bs, hb, e⟩ := h
    simp at e; subst e
    exact .cons (opd_ok fr hy) (ih hb)

/-- Memory that reads as cells. -/
def Mem (φ : Phi) (w : World) (b o : Nat) (cs : List AVal) : Prop := ∀ (i : Nat) a, cs[i]? = some a → ∃ u, w.cell? ⟨b, o + i, none⟩ = some u ∧ VR φ w a u ∧ u.oneCell' = true

theorem Sim.mem {w0 : World} {φ : Phi} {σ : ASt} {w : World} (s : Sim w0 φ σ w) {g b sz : Nat} {t : TypeId} {cs : List AVal} (hg : σ[g]? = some (.cells t cs)) (hr : φ.objs[g]? = some (.cell b sz)) : Mem φ w b 0 cs := by
  obtain ⟨b', sz', e, h1, h2, c, h3, h4, h5, h6, h7⟩ := s.obj g _ _ hg hr
  cases e
  intro i a ha
  have hi : i < cs.length := by
    rcases Nat.lt_or_ge i cs.length with h | h
    · exact h
    · simp [List.getElem?_eq_none h] at ha
  have hc : i < c.size := by omega
  refine ⟨c[i], by rw [cell_of_block h3]; simp [hc], h6 i a _ ha (by simp [hc]), h7 _ (by simp)⟩

theorem mem_of_iptr {φ : Phi} {w : World} {v : AVal} {off : Nat} {cv : Value} (h : VR φ w (.iptr v off) cv) : ∃ b o, cv = .pointer (some ⟨b, o + off, none⟩) ∧ Mem φ w b o v.cells := by
  cases h with
  | iptr _ _ b o f hc ho hv hh =>
    refine ⟨b, o, rfl, fun i a ha => ?_⟩
    have hi : i < v.cells.length := by
      rcases Nat.lt_or_ge i v.cells.length with h | h
      · exact h
      · simp [List.getElem?_eq_none h] at ha
    exact ⟨f i, hc i hi, hv i a ha, ho i hi⟩

theorem load_mem {P : Program} {φ : Phi} {w : World} {b o off : Nat} {cs : List AVal} {n : Option Nat} {t : TypeId} {v : AVal} (hm : Mem φ w b o cs) (hn : shp P t = some n) (hc : cut n cs off = some v) :
    ∃ cv, (loadVar t ⟨b, o + off, none⟩).run P w = .ok cv w ∧ VR φ w v cv := by
  cases n with
  | none =>
    obtain ⟨u, h1, h2, _⟩ := hm off v hc
    exact ⟨u, by simp [loadVar, r_shp_none hn, h1], h2⟩
  | some n =>
    obtain ⟨ha, hs⟩ := r_shp_some hn w
    simp only [cut] at hc
    split at hc <;> simp at hc
    rename_i hlen
    subst hc
    have hex : ∀ i, i < n → ∃ u, w.cell? ⟨b, o + off + i, none⟩ = some u ∧ (∀ a, cs[off + i]? = some a → VR φ w a u) ∧ u.oneCell' = true := by
      intro i hi
      have hlt : off + i < cs.length := by omega
      obtain ⟨u, h1, h2, h3⟩ := hm (off + i) cs[off + i] (by simp)
      exact ⟨u, by rw [Nat.add_assoc]; exact h1, fun a ha' => by rw [List.getElem?_eq_getElem hlt] at ha'; cases ha'; exact h2, h3⟩
    let f : Nat → Value := fun i => if h : i < n then (hex i h).choose else undef
    have hf : ∀ i (h : i < n), w.cell? ⟨b, o + off + i, none⟩ = some (f i) ∧ (∀ a, cs[off + i]? = some a → VR φ w a (f i)) ∧ (f i).oneCell' = true := by
      intro i h
      have := (hex i h).choose_spec
      simp only [f, dif_pos h]; exact this
    refine ⟨.agg ((List.range n).map f).toArray, ?_, ?_⟩
    · simp only [loadVar, Sem.run_bind, ha, Result.andThen_ok, if_true, hs]
      rw [run_loadCells w _ n f (fun j hj => by rw [add_none]; exact (hf j hj).1)]
      simp
    · refine VR.agg _ _ (by simp; omega) ?_ ?_
      · intro v hv
        obtain ⟨i, hi, rfl⟩ := List.mem_map.1 hv
        exact (hf i (List.mem_range.1 hi)).2.2
      · intro i a v h1 h2
        rw [List.getElem?_take] at h1
        split at h1
        · rename_i hi
          rw [List.getElem?_drop] at h1
          simp [hi] at h2; subst h2
          exact (hf i hi).2.1 a h1
        · cases h1

theorem aload_ok {P : Program} {w0 : World} {φ : Phi} {σ : ASt} {w : World} (s : Sim w0 φ σ w) {n : Option Nat} {t : TypeId} {p v : AVal} {cp : Value} (hp : VR φ w p cp) (hn : shp P t = some n) (h : aload n p σ = some v) :
    ∃ b o cv, cp = .pointer (some ⟨b, o, none⟩) ∧ (loadVar t ⟨b, o, none⟩).run P w = .ok cv w ∧ VR φ w v cv := by
  cases p <;> simp only [aload] at h <;> try simp at h
  · rename_i g off
    split at h
    · rename_i cs hg
      cases hp with
      | ptr _ _ b sz hr =>
        obtain ⟨cv, h1, h2⟩ := load_mem (s.mem hg hr) hn h
        exact ⟨b, off, cv, rfl, by simpa using h1, h2⟩
    · simp at h
  · rename_i x off
    obtain ⟨b, o, rfl, hm⟩ := mem_of_iptr hp
    obtain ⟨cv, h1, h2⟩ := load_mem hm hn h
    exact ⟨b, o + off, cv, rfl, h1, h2⟩

end Go.Am

namespace Go.Am
open Go Go.RowKit

section
variable {P : Program} {w0 : World} {φ : Phi} {σ : ASt} {w : World} {a : Frame} {ac : Act}

/-- What it is for an operation to come to a value and to change nothing. -/
def Gives (P : Program) (φ : Phi) (w : World) (x : Sem Value) (v : AVal) : Prop := ∃ cv, x.run P w = .ok cv w ∧ VR φ w v cv

theorem gives_pick {c x y : AVal} {cc cx cy : Value} (hc : VR φ w c cc) (hx : VR φ w x cx) (hy : VR φ w y cy) {v : AVal} (h : pck c x y = some v) :
    Gives P φ w (do pure (if ← asBool cc then cx else cy)) v := by
  cases hc <;> simp [pck] at h
  rename_i b
  subst h
  cases b
  · exact ⟨cy, by simp [asBool], hy⟩
  · exact ⟨cx, by simp [asBool], hx⟩

theorem gives_nilc {x v : AVal} {cx : Value} (hx : VR φ w x cx) (h : anilc x = some v) :
    ∃ p, cx = .pointer (some p) ∧ VR φ w v cx := by
  cases hx <;> simp [anilc] at h <;> subst h
  · exact ⟨_, rfl, .ptr _ _ _ _ ‹_›⟩
  · exact ⟨_, rfl, .iptr _ _ _ _ _ ‹_› ‹_› ‹_› ‹_›⟩
  · exact ⟨_, rfl, .gptr _ _⟩

theorem isBits_eq (op : BinOp) (k : IntKind) (x y : Int) (h : op = .and ∨ op = .or ∨ op = .xor ∨ op = .andNot) : (Op.intBits op k x y).run P w = .ok (.int k (isBits k op x y)) w := by
  rcases h with rfl | rfl | rfl | rfl <;> simp [Op.intBits, isBits]

theorem gives_intBin {op : BinOp} {k : IntKind} {x y : Int} {v : AVal} {t : TypeId} (ho : op ≠ .shl ∧ op ≠ .shr) (h : intBin op k x y = some v) : Gives P φ w (binOp op t (.int k x) (.int k y)) v := by
  cases op <;> simp [intBin] at h ho
  case add => subst h; exact ⟨_, by simp [binOp, Op.intArith], .int _ _⟩
  case sub => subst h; exact ⟨_, by simp [binOp, Op.intArith], .int _ _⟩
  case mul => subst h; exact ⟨_, by simp [binOp, Op.intArith], .int _ _⟩
  case quo => obtain ⟨h0, rfl⟩ := h; exact ⟨_, by simp [binOp, Op.intDiv, h0], .int _ _⟩
  case rem => obtain ⟨h0, rfl⟩ := h; exact ⟨_, by simp [binOp, Op.intDiv, h0], .int _ _⟩
  case and => subst h; exact ⟨_, by simp only [binOp, ne_eq, not_true, if_false]; exact isBits_eq _ _ _ _ (by simp), .int _ _⟩
  case or => subst h; exact ⟨_, by simp only [binOp, ne_eq, not_true, if_false]; exact isBits_eq _ _ _ _ (by simp), .int _ _⟩
  case xor => subst h; exact ⟨_, by simp only [binOp, ne_eq, not_true, if_false]; exact isBits_eq _ _ _ _ (by simp), .int _ _⟩
  case andNot => subst h; exact ⟨_, by simp only [binOp, ne_eq, not_true, if_false]; exact isBits_eq _ _ _ _ (by simp), .int _ _⟩
  case eql => subst h; exact ⟨.bool (x == y), by simp [binOp, Op.intCmp], by rw [show (x == y) = decide (x = y) from rfl]; exact .bool _⟩
  case neq => subst h; exact ⟨.bool (x != y), by simp [binOp, Op.intCmp], by rw [show (x != y) = !decide (x = y) from rfl]; exact .bool _⟩
  case lss => subst h; exact ⟨.bool (decide (x < y)), by simp [binOp, Op.intCmp], .bool _⟩
  case leq => subst h; exact ⟨.bool (decide (x ≤ y)), by simp [binOp, Op.intCmp], .bool _⟩
  case gtr => subst h; exact ⟨.bool (decide (y < x)), by simp [binOp, Op.intCmp], .bool _⟩
  case geq => subst h; exact ⟨.bool (decide (y ≤ x)), by simp [binOp, Op.intCmp], .bool _⟩

theorem gives_shBin {op : BinOp} {k k' : IntKind} {x y : Int} {v : AVal} {t : TypeId} (ho : op = .shl ∨ op = .shr) (h : shBin op k x y = some v) : Gives P φ w (binOp op t (.int k x) (.int k' y)) v := by
  unfold shBin at h
  split at h
  · simp at h
  · rename_i hy
    rcases ho with rfl | rfl <;> simp at h <;> subst h
    · exact ⟨_, by simp [binOp, Op.shift, hy], .int _ _⟩
    · exact ⟨_, by simp [binOp, Op.shift, hy], .int _ _⟩

theorem str_data (s : List UInt8) : (ByteArray.mk s.toArray).toList = s := by simp

theorem beq_dec (x y : List UInt8) : (x == y) = decide (x = y) := by
  rw [Bool.eq_iff_iff]; simp

theorem gives_strBin {op : BinOp} {x y : List UInt8} {v : AVal} {t : TypeId} (h : strBin op x y = some v) : Gives P φ w (binOp op t (.string ⟨x.toArray⟩) (.string ⟨y.toArray⟩)) v := by
  cases op <;> simp [strBin] at h
  case add =>
    obtain ⟨h0, rfl⟩ := h
    refine ⟨.string (⟨x.toArray⟩ ++ ⟨y.toArray⟩), ?_, ?_⟩
    · have hs : ¬ (((ByteArray.mk x.toArray).size + (ByteArray.mk y.toArray).size : Nat) : Int) > IntKind.i64.max := by
        simp [ByteArray.size, IntKind.max, IntKind.signed, IntKind.bits]; omega
      simp only [binOp, Op.stringOp, if_neg hs]
      rfl
    · have e : (ByteArray.mk x.toArray ++ ByteArray.mk y.toArray) = ⟨(x ++ y).toArray⟩ := by
        apply ByteArray.ext; simp
      rw [e]; exact .str _
  case eql => subst h; exact ⟨.bool (x == y), by simp [binOp, Op.stringOp], by rw [beq_dec]; exact .bool _⟩
  case neq => subst h; exact ⟨.bool (!(x == y)), by simp [binOp, Op.stringOp], by rw [beq_dec]; exact .bool _⟩

end
end Go.Am

namespace Go.Am
open Go Go.RowKit

section
variable {P : Program} {w0 : World} {φ : Phi} {σ : ASt} {w : World} {a : Frame} {ac : Act}

theorem gives_un {op : UnOp} {x v : AVal} {cx : Value} (hx : VR φ w x cx) (h : aun op x = some v) : Gives P φ w (Op.unary op cx) v := by
  cases op <;> cases hx <;> simp [aun] at h
  case neg.int k n => subst h; exact ⟨.int k (k.wrap (-n)), by simp [Op.unary, Op.intArith], .int _ _⟩
  case xor.int k n => subst h; exact ⟨_, by simp only [Op.unary]; exact isBits_eq _ _ _ _ (by simp), .int _ _⟩
  case not.bool b => subst h; exact ⟨_, by simp [Op.unary], .bool _⟩

theorem gives_conv {s d : TypeId} {k ks : IntKind} {x v : AVal} {cx : Value} (hs : P.underlying s = some (.int ks)) (hd : P.underlying d = some (.int k)) (hx : VR φ w x cx)
    (h : aconv k x = some v) : Gives P φ w (convert s d cx) v := by
  cases hx <;> simp [aconv] at h
  subst h
  exact ⟨_, by simp [convert, r_und hs, r_und hd, Conv.intToInt], .int _ _⟩

theorem gives_same {s d : TypeId} {x : AVal} {cx : Value} (hs : P.underlying s = some .string) (hd : P.underlying d = some .string) {v : AVal} (hx : VR φ w x cx) (h : asame x = some v) : Gives P φ w (convert s d cx) v := by
  cases hx <;> simp [asame] at h
  subst h
  exact ⟨_, by simp [convert, r_und hs, r_und hd], .str _⟩

theorem aaddr_ok {off : Nat} {x v : AVal} {cx : Value} (hx : VR φ w x cx) (h : aaddr off x = some v) : ∃ b o, cx = .pointer (some ⟨b, o, none⟩) ∧ VR φ w v (.pointer (some ⟨b, o + off, none⟩)) := by
  cases hx <;> simp [aaddr] at h <;> subst h
  · exact ⟨_, _, rfl, .ptr _ _ _ _ ‹_›⟩
  · rename_i v o b o' f h1 h2 h3 h4
    exact ⟨_, _, rfl, by rw [Nat.add_assoc]; exact .iptr _ _ _ _ _ h1 h2 h3 h4⟩
  · exact ⟨_, _, rfl, .gptr _ _⟩

theorem gives_addr {t : TypeId} {fs : Array Field} {f o n : Nat} {x v : AVal} {cx : Value} (ht : P.underlying t = some (.struct fs)) (hf : fieldPl P fs f = some (o, n + 1)) (hx : VR φ w x cx) (h : aaddr o x = some v) :
    Gives P φ w (Instr.fieldAt t cx f) v := by
  obtain ⟨b, o', rfl, hv⟩ := aaddr_ok hx h
  unfold fieldPl at hf
  split at hf
  · rename_i fd hfd
    simp at hf
    obtain ⟨hs, rfl⟩ := hf
    exact ⟨_, by simp [Instr.fieldAt, r_und ht, hfd, Instr.sureAddr, fieldPlace, r_size hs, add_none], hv⟩
  · simp at hf

theorem gives_ixArr {t : TypeId} {el n es : Nat} {x i v : AVal} {cx ci : Value} (ht : P.underlying t = some (.array n el)) (hs : szOf P el = some es) (hx : VR φ w x cx) (hi : VR φ w i ci) (h : aixArr es n x i = some v) :
    Gives P φ w (Instr.indexAt t cx ci) v := by
  cases hi <;> simp [aixArr] at h
  rename_i k j
  obtain ⟨hj, h⟩ := h
  obtain ⟨b, o', rfl, hv⟩ := aaddr_ok hx h
  exact ⟨_, by simp [Instr.indexAt, asIntOf, r_und ht, Instr.sureAddr, hj, r_size hs, add_none], hv⟩

theorem mem_list {l : List AVal} {es b o : Nat} {f : Nat → Nat → Value} (hes : ∀ e ∈ l, e.cells.length = es) (hc : ∀ i, i < l.length → ∀ j, j < es → w.cell? ⟨b, o + i * es + j, none⟩ = some (f i j))
    (ho : ∀ i, i < l.length → ∀ j, j < es → (f i j).oneCell' = true) (hv : ∀ (i : Nat) e, l[i]? = some e → ∀ (j : Nat) a, e.cells[j]? = some a → VR φ w a (f i j)) (hh : 0 < l.length * es → o + l.length * es ≤ φ.hi b)
    {i : Nat} {e : AVal} (he : l[i]? = some e) : VR φ w (.iptr e 0) (.pointer (some ⟨b, o + i * es, none⟩)) := by
  have hi : i < l.length := by
    rcases Nat.lt_or_ge i l.length with h | h
    · exact h
    · simp [List.getElem?_eq_none h] at he
  have hl := hes e (List.mem_of_getElem? he)
  have hm : (i + 1) * es ≤ l.length * es := Nat.mul_le_mul_right es hi
  have hx : (i + 1) * es = i * es + es := by rw [Nat.add_mul, Nat.one_mul]
  refine .iptr e 0 b (o + i * es) (f i) (fun j hj => hc i hi j (hl ▸ hj)) (fun j hj => ho i hi j (hl ▸ hj)) (fun j a ha => hv i e he j a ha) (fun h => ?_)
  have := hh (by omega)
  omega

theorem gives_ixSl {t : TypeId} {el es : Nat} {x i v : AVal} {cx ci : Value} (ht : P.underlying t = some (.slice el)) (hs : szOf P el = some es) (hx : VR φ w x cx) (hi : VR φ w i ci) (h : aixSl es x i = some v) :
    Gives P φ w (Instr.indexAt t cx ci) v := by
  cases hi <;> cases hx <;> simp [aixSl] at h
  case int.list k j tok es' l b o cap f hes hc ho hv hh hcap ht' =>
    obtain ⟨⟨h0, rfl⟩, e, he, rfl⟩ := h
    have hlt : j.toNat < l.length := by
      rcases Nat.lt_or_ge j.toNat l.length with h | h
      · exact h
      · simp [List.getElem?_eq_none h] at he
    exact ⟨_, by simp [Instr.indexAt, asIntOf, r_und ht, show j < l.length by omega, h0, r_size hs, add_none], mem_list hes hc ho hv hh he⟩
  case int.mslice k j g es' off len b sz cap h1 h2 h3 =>
    obtain ⟨⟨h0, hl, rfl⟩, rfl⟩ := h
    refine ⟨.pointer (some ⟨b, off * es + j.toNat * es, none⟩), by simp [Instr.indexAt, asIntOf, r_und ht, hl, h0, r_size hs, add_none], ?_⟩
    rw [← Nat.add_mul]; exact .ptr _ _ _ _ h1

theorem VRs.one {a : AVal} {v : Value} (h : VR φ w a v) : VRs φ w [a] [v] := .cons h .nil

theorem cells_agg {cs : List AVal} {cx : Value} (hx : VR φ w (.agg cs) cx) : ∃ c : List Value, cx = .agg c.toArray ∧ VRs φ w cs c ∧ ∀ v ∈ c, v.oneCell' = true := by
  cases hx with | agg _ c hl ho hv => exact ⟨c, rfl, ⟨hl, hv⟩, ho⟩

/-- A value's cells. -/
theorem cells_ok {x : AVal} {cx : Value} (hx : VR φ w x cx) (hu : x.isVal = true) : VRs φ w x.cells cx.cells.toList ∧ ∀ v ∈ cx.cells.toList, v.oneCell' = true := by
  have one : ∀ {y : AVal} {cy : Value}, VR φ w y cy → y.cells = [y] → cy.cells = #[cy] → cy.oneCell' = true → VRs φ w y.cells cy.cells.toList ∧ ∀ v ∈ cy.cells.toList, v.oneCell' = true := by
    intro y cy h h1 h2 h3
    rw [h1, h2]; exact ⟨.one h, fun v hv => by simp at hv; subst hv; exact h3⟩
  cases hx with
  | undef => simp [AVal.isVal] at hu
  | agg cs c hl ho hv => exact ⟨⟨hl, hv⟩, ho⟩
  | tuple cs c hl hv => simp [AVal.isVal] at hu
  | bool b => exact one (.bool b) rfl rfl rfl
  | int k n => exact one (.int k n) rfl rfl rfl
  | str s => exact one (.str s) rfl rfl rfl
  | nilptr => exact one .nilptr rfl rfl rfl
  | ptr g off b sz h => exact one (.ptr g off b sz h) rfl rfl rfl
  | iptr v off b o f h1 h2 h3 h4 => exact one (.iptr v off b o f h1 h2 h3 h4) rfl rfl rfl
  | dptr x b o n c h => exact one (.dptr x b o n c h) rfl rfl rfl
  | gptr b off => exact one (.gptr b off) rfl rfl rfl
  | nilslice => exact one .nilslice rfl rfl rfl
  | list t es l b o cap f h1 h2 h3 h4 h5 h6 h7 => exact one (.list t es l b o cap f h1 h2 h3 h4 h5 h6 h7) rfl rfl rfl
  | mslice g es off len b sz cap h1 h2 h3 => exact one (.mslice g es off len b sz cap h1 h2 h3) rfl rfl rfl
  | nilmap => exact one .nilmap rfl rfl rfl
  | map g b h => exact one (.map g b h) rfl rfl rfl
  | func fn f c f' c' h1 h2 h3 h4 => exact one (.func fn f c f' c' h1 h2 h3 h4) rfl rfl rfl
  | nilfunc => exact one .nilfunc rfl rfl rfl
  | iface t v v' h => exact one (.iface t v v' h) rfl rfl rfl
  | nilIface => exact one .nilIface rfl rfl rfl

/-- A part of an aggregate. -/
theorem gives_part {t : TypeId} {n : Option Nat} {off : Nat} {cs : List AVal} {c : List Value} {v : AVal} (hn : shp P t = some n) (hc : VRs φ w cs c) (ho : ∀ v ∈ c, v.oneCell' = true) (h : cut n cs off = some v) : Gives P φ w (part t c.toArray off) v := by
  cases n with
  | none =>
    have hlt : off < c.length := by
      rw [← hc.1]
      rcases Nat.lt_or_ge off cs.length with h' | h'
      · exact h'
      · simp [cut, List.getElem?_eq_none h'] at h
    exact ⟨c[off], by simp [part, r_shp_none hn, hlt], hc.2 off v _ h (by simp [hlt])⟩
  | some n =>
    obtain ⟨ha, hs⟩ := r_shp_some hn w
    simp only [cut] at h
    split at h <;> simp at h
    subst h
    refine ⟨.agg ((c.drop off).take n).toArray, ?_, ?_⟩
    · simp only [part, Sem.run_bind, ha, Result.andThen_ok, if_true, hs, Sem.run_pure]
      congr 2
      apply Array.ext'
      simp [List.extract_eq_take_drop]
    · have := (hc.drop off).take n
      exact .agg _ _ this.1 (fun v hv => ho v (List.mem_of_mem_drop (List.mem_of_mem_take hv))) this.2

theorem gives_field {t : TypeId} {fs : Array Field} {f : Nat} {fd : Field} {n : Option Nat} {x v : AVal} {cx : Value} (ht : P.underlying t = some (.struct fs)) (hf : fs[f]? = some fd) (hn : shp P fd.type = some n) (hx : VR φ w x cx)
    (h : afield n fd.offset x = some v) : Gives P φ w (Instr.field t cx f) v := by
  cases x <;> simp [afield] at h
  obtain ⟨c, rfl, hc, ho⟩ := cells_agg hx
  obtain ⟨cv, h1, h2⟩ := gives_part (w := w) hn hc ho h
  exact ⟨cv, by simp [Instr.field, r_und ht, hf, asAgg, h1], h2⟩

theorem cellsOf_eq {t : TypeId} {es : Nat} (h : cellsOf P t = some es) : szOf P t = some es ∧ (shp P t = some none ∧ es = 1 ∨ shp P t = some (some es)) := by
  unfold cellsOf at h
  split at h
  · rename_i h1 h2; simp at h; subst h; exact ⟨h2, .inl ⟨h1, rfl⟩⟩
  · rename_i n m h1 h2
    split at h <;> simp at h
    subst h; rename_i e; subst e; exact ⟨h2, .inr h1⟩
  · simp at h

theorem gives_ixVal {t : TypeId} {el n es : Nat} {sh : Option Nat} {x i v : AVal} {cx ci : Value} (ht : P.underlying t = some (.array n el)) (hn : shp P el = some sh) (hs : cellsOf P el = some es) (hx : VR φ w x cx) (hi : VR φ w i ci) (h : aixVal sh n x i = some v) :
    Gives P φ w (Instr.index t cx ci) v := by
  cases x <;> cases hi <;> simp [aixVal] at h
  rename_i cs k j
  obtain ⟨hj, h⟩ := h
  obtain ⟨c, rfl, hc, ho⟩ := cells_agg hx
  have hes : sh.getD 1 = es := by
    obtain ⟨h1, ⟨h2, rfl⟩ | h2⟩ := cellsOf_eq hs
    · rw [h2] at hn; cases hn; rfl
    · rw [h2] at hn; cases hn; rfl
  rw [hes] at h
  obtain ⟨cv, h1, h2⟩ := gives_part (w := w) hn hc ho h
  exact ⟨cv, by simp [Instr.index, asIntOf, r_und ht, hj, r_size (cellsOf_eq hs).1, h1], h2⟩

theorem gives_ixStr {t : TypeId} {x i v : AVal} {cx ci : Value} (ht : P.underlying t = some .string) (hx : VR φ w x cx) (hi : VR φ w i ci) (h : aixStr x i = some v) : Gives P φ w (Instr.index t cx ci) v := by
  cases hx <;> cases hi <;> simp [aixStr] at h
  rename_i s k j
  obtain ⟨hj, b, hb, rfl⟩ := h
  have hlt : j.toNat < s.length := by
    rcases Nat.lt_or_ge j.toNat s.length with h | h
    · exact h
    · simp [List.getElem?_eq_none h] at hb
  have e : s[j.toNat] = b := by rw [List.getElem?_eq_getElem hlt] at hb; simpa using hb
  have hg : (ByteArray.mk s.toArray)[j.toNat]? = some b := by
    rw [getElem?_pos (ByteArray.mk s.toArray) j.toNat (by simpa [ByteArray.size] using hlt)]
    exact congrArg some e
  exact ⟨_, by simp [Instr.index, asIntOf, r_und ht, hj, hg], .int _ _⟩

theorem gives_extr {n : Nat} {x v : AVal} {cx : Value} (hx : VR φ w x cx) (h : aextr n x = some v) : Gives P φ w (Instr.extract cx n) v := by
  cases hx <;> simp [aextr] at h
  rename_i cs c hl hv
  have hlt : n < c.length := by
    rw [← hl]
    rcases Nat.lt_or_ge n cs.length with h' | h'
    · exact h'
    · simp [List.getElem?_eq_none h'] at h
  exact ⟨c[n], by simp [Instr.extract, hlt], hv n v _ h (by simp [hlt])⟩

end
end Go.Am

namespace Go.Am
open Go Go.RowKit

section
variable {P : Program} {w0 : World} {φ : Phi} {σ : ASt} {w : World} {a : Frame} {ac : Act}

theorem foldl_splice (off : Nat) : ∀ (vs : List Value) (k : Nat) (cs : Array Value), off + k + vs.length ≤ cs.size →
    ((vs.zipIdx k).foldl (fun cs (x : Value × Nat) => cs.setIfInBounds (off + x.2) x.1) cs).toList = cs.toList.take (off + k) ++ vs ++ cs.toList.drop (off + k + vs.length)
  | [], k, cs, _ => by simp
  | v :: vs, k, cs, h => by
    simp only [List.length_cons] at h
    rw [List.zipIdx_cons, List.foldl_cons, foldl_splice off vs (k + 1) _ (by simp; omega)]
    apply List.ext_getElem? fun i => ?_
    simp only [Array.toList_setIfInBounds]
    rw [show off + (k + 1) + vs.length = off + k + (v :: vs).length by simp; omega]
    rw [show off + k + (v :: vs).length = off + (k + 1) + vs.length by simp; omega, splice_get (by simp; omega)]
    rw [show off + (k + 1) + vs.length = off + k + (v :: vs).length by simp; omega, splice_get (by simp; omega)]
    simp only [List.length_cons]
    by_cases h1 : off + (k + 1) ≤ i ∧ i < off + (k + 1) + vs.length
    · rw [if_pos (by omega), if_pos (by omega), show i - (off + k) = (i - (off + (k + 1))) + 1 by omega]; simp
    · rw [if_neg (by omega)]
      by_cases h2 : i = off + k
      · subst h2; rw [if_pos (by omega), List.getElem?_set_self (by simp; omega)]; simp
      · rw [if_neg (by omega), List.getElem?_set_ne (by omega)]

/-- Builds: the parts that are laid. -/
def PartsOk (φ : Phi) (w : World) (place : Nat → Option (Nat × Nat)) : List (Nat × Value) → List (Nat × Nat × AVal) → Prop
  | [], [] => True
  | (i, v) :: l, (o, n, x) :: m => place i = some (o, n) ∧ VR φ w x v ∧ PartsOk φ w place l m
  | _, _ => False

theorem lay_ok {place : Nat → Option (Nat × Nat)} : ∀ (l : List (Nat × Value)) (m : List (Nat × Nat × AVal)) (zero : List AVal) (cells : Array Value) (cs : List AVal), PartsOk φ w place l m → VRs φ w zero cells.toList → (∀ v ∈ cells.toList, v.oneCell' = true) →
    lay zero m = some cs → ∃ out : Array Value, Instr.fill place cells l = some out ∧ VRs φ w cs out.toList ∧ ∀ v ∈ out.toList, v.oneCell' = true
  | [], [], zero, cells, cs, _, hz, ho, h => by simp [lay] at h; subst h; exact ⟨cells, rfl, hz, ho⟩
  | [], _ :: _, _, _, _, hp, _, _, _ => hp.elim
  | _ :: _, [], _, _, _, hp, _, _, _ => hp.elim
  | (i, v) :: l, (o, n, x) :: m, zero, cells, cs, hp, hz, ho, h => by
    obtain ⟨h1, h2, h3⟩ := hp
    simp only [lay] at h
    split at h
    · rename_i hn
      obtain ⟨hn0, hn⟩ := hn
      obtain ⟨k1, k2⟩ := cells_ok h2 hn0
      have hsz : v.cells.size = n := by have := k1.1; simp at this; omega
      have hzl : zero.length = cells.size := by have := hz.1; simpa using this
      have hb : ¬ ((v.cells.size ≠ n || decide (o + v.cells.size > cells.size)) = true) := by simp; omega
      let cells' := v.cells.toList.zipIdx.foldl (fun cs (x : Value × Nat) => cs.setIfInBounds (o + x.2) x.1) cells
      have hf := foldl_splice o v.cells.toList 0 cells (by simp; omega)
      simp only [Nat.add_zero] at hf
      have hvr : VRs φ w (zero.take o ++ x.cells ++ zero.drop (o + n)) cells'.toList := by
        show VRs φ w _ (v.cells.toList.zipIdx.foldl _ cells).toList
        rw [hf, show o + v.cells.toList.length = o + n by simp; omega]
        exact ((hz.take o).append k1).append (hz.drop (o + n))
      have hone : ∀ v ∈ cells'.toList, v.oneCell' = true := by
        intro u hu
        have hu : u ∈ (v.cells.toList.zipIdx.foldl (fun cs (x : Value × Nat) => cs.setIfInBounds (o + x.2) x.1) cells).toList := hu
        rw [hf] at hu
        rcases List.mem_append.1 hu with hu | hu
        · rcases List.mem_append.1 hu with hu | hu
          · exact ho u (List.mem_of_mem_take hu)
          · exact k2 u hu
        · exact ho u (List.mem_of_mem_drop hu)
      obtain ⟨out, q1, q2, q3⟩ := lay_ok l m _ cells' cs h3 hvr hone h
      refine ⟨out, ?_, q2, q3⟩
      simp only [Instr.fill, h1]
      rw [if_neg hb, ← q1]
      congr 1
      show Array.foldl _ cells v.cells.zipIdx = cells'
      rw [← Array.foldl_toList, Array.toList_zipIdx]
    · simp at h

theorem parts_ok {place place' : Nat → Option (Nat × Nat)} (fr : FR φ w a ac.tmps) : ∀ (ps : List (Nat × Operand)) (l : List (Nat × Nat × IOpd)), (ps.mapM fun (x : Nat × Operand) => match place x.1, trOpd x.2 with | some (o, n), some y => some (o, n, y) | _, _ => none) = some l →
    (∀ i o n, place i = some (o, n) → place' i = some (o, n)) → PartsOk φ w place' (ps.map fun (x : Nat × Operand) => (x.1, ac.eval x.2)) (l.map fun (o, n, x) => (o, n, x.ev a))
  | [], l, h, _ => by simp at h; subst h; trivial
  | (i, x) :: ps, l, h, hp => by
    simp only [List.mapM_cons, Option.pure_def, Option.bind_eq_bind, Option.bind_eq_some_iff] at h
    obtain ⟨y, hy, bs, hb, e⟩ := h
    simp at e; subst e
    split at hy <;> simp at hy
    rename_i o n z h1 h2
    subst hy
    exact ⟨hp _ _ _ h1, opd_ok fr h2, parts_ok fr ps bs hb hp⟩

theorem mapM_cv {φ : Phi} {w : World} : ∀ (l : List Value) (z : List AVal), l.mapM cv = some z → VRs φ w z l
  | [], z, h => by simp at h; subst h; exact .nil
  | x :: l, z, h => by
    simp only [List.mapM_cons, Option.pure_def, Option.bind_eq_bind, Option.bind_eq_some_iff] at h
    obtain ⟨y, hy, bs, hb, e⟩ := h
    simp at e; subst e
    exact .cons (cv_ok hy) (mapM_cv l bs hb)

theorem zeroCs_ok {t : TypeId} {z : List AVal} (h : zeroCs P t = some z) (φ : Phi) (w : World) : ∃ v, (zeroValue t).run P w = .ok v w ∧ VRs φ w z v.cells.toList ∧ ∀ u ∈ v.cells.toList, u.oneCell' = true := by
  unfold zeroCs at h
  cases hi : P.info? t with
  | none => simp [hi] at h
  | some i =>
    rcases i with ⟨d, s, n, b, hp, al, fa, zz, c, m⟩
    cases zz with
    | none => simp [hi] at h
    | some v =>
      simp only [hi] at h
      split at h
      · rename_i ho
        exact ⟨v, by simp [zeroValue, r_info hi], mapM_cv _ _ h, List.all_eq_true.1 ho⟩
      · simp at h

theorem zeroV_ok {t : TypeId} {z : AVal} (h : zeroV P t = some z) (φ : Phi) (w : World) : ∃ v, (zeroValue t).run P w = .ok v w ∧ VR φ w z v := by
  unfold zeroV at h
  cases hi : P.info? t with
  | none => simp [hi] at h
  | some i =>
    rcases i with ⟨d, s, n, b, hp, al, fa, zz, c, m⟩
    cases zz with
    | none => simp [hi] at h
    | some v => simp only [hi] at h; exact ⟨v, by simp [zeroValue, r_info hi], cv_ok h⟩

theorem r_mapM_size (w : World) : ∀ (fs : List Field), fs.all (fun f : Field => (szOf P f.type).isSome) = true → ∃ l : List (Nat × Nat), (fs.mapM fun f : Field => (do pure (f.offset, ← sizeOf f.type) : Sem (Nat × Nat))).run P w = .ok l w ∧ ∀ i : Nat, l[i]? = (fs[i]?).bind fun f : Field => (szOf P f.type).map fun n => (f.offset, n)
  | [], _ => ⟨[], rfl, fun i => by simp⟩
  | f :: fs, h => by
    simp only [List.all_cons, Bool.and_eq_true] at h
    obtain ⟨n, hn⟩ := Option.isSome_iff_exists.1 h.1
    obtain ⟨l, h1, h2⟩ := r_mapM_size w fs h.2
    refine ⟨(f.offset, n) :: l, by simp only [List.mapM_cons, Sem.run_bind, r_size hn, Result.andThen_ok, Sem.run_pure, h1], fun i => ?_⟩
    cases i with
    | zero => simp [hn]
    | succ i => simpa using h2 i

theorem r_places (w : World) (fs : Array Field) (h : fs.toList.all (fun f : Field => (szOf P f.type).isSome) = true) : ∃ l : Array (Nat × Nat), (fs.mapM fun f : Field => (do pure (f.offset, ← sizeOf f.type) : Sem (Nat × Nat))).run P w = .ok l w ∧ ∀ i, l[i]? = fieldPl P fs i := by
  obtain ⟨l, h1, h2⟩ := r_mapM_size w fs.toList h
  refine ⟨l.toArray, ?_, fun i => ?_⟩
  · rw [Array.mapM_eq_mapM_toList, Sem.run_map, h1]; rfl
  · rw [List.getElem?_toArray, h2]
    unfold fieldPl
    cases hi : fs[i]? <;> simp [hi]

theorem gives_buildS {t : TypeId} {fs : Array Field} {ps : Array (Nat × Operand)} {z : List AVal} {l : List (Nat × Nat × IOpd)} {cs : List AVal} (fr : FR φ w a ac.tmps) (hz : zeroCs P t = some z) (ht : P.underlying t = some (.struct fs)) (hsz : fs.toList.all (fun f : Field => (szOf P f.type).isSome) = true)
    (hp : trParts (fieldPl P fs) ps = some l) (h : lay z (l.map fun (o, n, x) => (o, n, x.ev a)) = some cs) : Gives P φ w (Instr.build t (ps.map fun (i, x) => (i, ac.eval x))) (.agg cs) := by
  obtain ⟨zv, h1, h2, h3⟩ := zeroCs_ok hz φ w
  obtain ⟨pl, h4, h5⟩ := r_places w fs hsz
  obtain ⟨out, h6, h7, h8⟩ := lay_ok _ _ z zv.cells cs (parts_ok (place' := (pl[·]?)) fr ps.toList l hp (fun i o n hi => by rw [h5]; exact hi)) h2 h3 h
  refine ⟨.agg out, ?_, ?_⟩
  · have e : (ps.map fun (x : Nat × Operand) => (x.1, ac.eval x.2)).toList = ps.toList.map fun (x : Nat × Operand) => (x.1, ac.eval x.2) := by simp
    simp only [Instr.build, Sem.run_bind, h1, Result.andThen_ok, r_und ht, h4]
    have e2 : (Array.map (fun x => (match x with | (i, x) => (i, ac.eval x) : Nat × Value)) ps).toList = ps.toList.map fun (x : Nat × Operand) => (x.1, ac.eval x.2) := by simp
    rw [e2, h6]; rfl
  · have := VR.agg (φ := φ) (w := w) cs out.toList h7.1 h8 h7.2
    simpa using this

theorem gives_buildA {t : TypeId} {k el n : Nat} {ps : Array (Nat × Operand)} {z : List AVal} {l : List (Nat × Nat × IOpd)} {cs : List AVal} (fr : FR φ w a ac.tmps) (hz : zeroCs P t = some z) (ht : P.underlying t = some (.array k el)) (hsz : szOf P el = some n)
    (hp : trParts (fun i => some (i * n, n)) ps = some l) (h : lay z (l.map fun (o, n, x) => (o, n, x.ev a)) = some cs) : Gives P φ w (Instr.build t (ps.map fun (i, x) => (i, ac.eval x))) (.agg cs) := by
  obtain ⟨zv, h1, h2, h3⟩ := zeroCs_ok hz φ w
  obtain ⟨out, h6, h7, h8⟩ := lay_ok _ _ z zv.cells cs (parts_ok (place := fun i => some (i * n, n)) (place' := fun i => some (i * n, n)) fr ps.toList l hp (fun i o n hi => hi)) h2 h3 h
  refine ⟨.agg out, ?_, ?_⟩
  · simp only [Instr.build, Sem.run_bind, h1, Result.andThen_ok, r_und ht, r_size hsz]
    have e2 : (Array.map (fun x => (match x with | (i, x) => (i, ac.eval x) : Nat × Value)) ps).toList = ps.toList.map fun (x : Nat × Operand) => (x.1, ac.eval x.2) := by simp
    rw [e2, h6]; rfl
  · have := VR.agg (φ := φ) (w := w) cs out.toList h7.1 h8 h7.2
    simpa using this

end
end Go.Am

