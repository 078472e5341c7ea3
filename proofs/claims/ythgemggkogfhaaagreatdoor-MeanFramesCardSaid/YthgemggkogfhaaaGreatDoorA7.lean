/-
  Effects are sound (2). Conditions: none.
-/
import Derived.Test.YthgemggkogfhaaaGreatDoorA6
import Derived.Test.YthgemggkogfhaaaGreatDoorA1
import Derived.Sort.Grow
import Derived.Deep.Draws
namespace Go.Am
open Go Go.RowKit

section
variable {P : Program} {w0 : World} {φ : Phi} {σ : ASt} {w : World} {a : Frame} {ac : Act}

theorem one_cells {x : AVal} {v : Value} (h : VR φ w x v) (ho : v.oneCell' = true) : x.cells = [x] := by
  cases h <;> first | rfl | (simp [Value.oneCell'] at ho)

theorem chunks_ok {es : Nat} (hes : 0 < es) : ∀ (n : Nat) (cs : List AVal) (vs : List Value), VRs φ w cs vs → (∀ v ∈ vs, v.oneCell' = true) → cs.length = n * es → (chunks es n cs).length = n ∧ (∀ e ∈ chunks es n cs, e.cells.length = es) ∧ flat (chunks es n cs) = cs
  | 0, cs, vs, _, _, hl => by
    have : cs = [] := by cases cs with | nil => rfl | cons _ _ => simp at hl
    subst this; simp [chunks, flat]
  | n + 1, cs, vs, h, ho, hl => by
    rw [Nat.add_mul, Nat.one_mul] at hl
    obtain ⟨k1, k2, k3⟩ := chunks_ok hes n (cs.drop es) (vs.drop es) (h.drop es) (fun v hv => ho v (List.mem_of_mem_drop hv)) (by simp; omega)
    have head : ((if es = 1 then cs.headD .undef else .agg (cs.take es)) : AVal).cells = cs.take es := by
      split
      · rename_i e
        subst e
        cases cs with
        | nil => simp at hl
        | cons x cs =>
          obtain ⟨v, vs', rfl, h1, _⟩ := h.inv_cons
          simp only [List.headD_cons, List.take_succ_cons, List.take_zero]
          exact one_cells h1 (ho v (by simp))
      · rfl
    refine ⟨by simp [chunks, k1], fun e he => ?_, ?_⟩
    · simp only [chunks, List.mem_cons] at he
      rcases he with rfl | he
      · rw [head]; simp; omega
      · exact k2 e he
    · simp only [flat, chunks, List.flatMap_cons] at k3 ⊢
      rw [head, k3, List.take_append_drop]

theorem does_bslice (s : Sim w0 φ σ w) (fr : FR φ w a ac.tmps) {t el es n : Nat} {z : List AVal} {ps : Array (Nat × Operand)} {l : List (Nat × Nat × IOpd)} {v : AVal} {σ' : ASt} (ht : P.underlying t = some (.slice el)) (hs : szOf P el = some (es + 1)) (hz : zeroCs P el = some z) (hzl : z.length = es + 1) (hn : 0 < n) (hb : n * (es + 1) ≤ 2 ^ 24)
    (hp : trParts (fun i => some (i * (es + 1), es + 1)) ps = some l) (h : abslice el (es + 1) n (lay (zeros z n) (l.map fun (o, n, x) => (o, n, x.ev a))) σ = .ok v σ') : Does P w0 φ w (Instr.buildSlice t n (ps.map fun (i, x) => (i, ac.eval x))) v σ' := by
  obtain ⟨zv, h1, h2, h3⟩ := zeroCs_ok hz φ w
  have hzs : zv.cells.size = es + 1 := by have := h2.1; simp at this; omega
  obtain ⟨q1, q2⟩ := zeros_ok h2 h3 n
  cases hl : lay (zeros z n) (l.map fun (o, n, x) => (o, n, x.ev a)) with
  | none => rw [hl] at h; cases h
  | some cs =>
    rw [hl] at h
    cases h
    obtain ⟨out, h6, h7, h8⟩ := lay_ok _ _ (zeros z n) _ cs (parts_ok (place := fun i => some (i * (es + 1), es + 1)) (place' := fun i => some (i * (es + 1), es + 1)) fr ps.toList l hp (fun i o n hi => hi)) q1 q2 hl
    have hol : cs.length = n * (es + 1) := by
      have key : ∀ (m : List (Nat × Nat × AVal)) (zs cs : List AVal), lay zs m = some cs → cs.length = zs.length := by
        intro m
        induction m with
        | nil => intro zs cs h; simp [lay] at h; rw [h]
        | cons p m ih =>
          intro zs cs h
          obtain ⟨o, k, x⟩ := p
          simp only [lay] at h
          split at h
          · rename_i hc
            rw [ih _ _ h]; simp; omega
          · cases h
      rw [key _ _ _ hl, zeros_len, hzl]
    obtain ⟨c1, c2, c3⟩ := chunks_ok (Nat.succ_pos es) n cs out.toList h7 h8 hol
    have hos : out.size = n * (es + 1) := by have := h7.1; simp at this; omega
    obtain ⟨x1, s1⟩ := s.newTok n (es + 1) n (Nat.succ_pos es) (Nat.le_refl _) out el (by omega)
    have hr : (φ.objs ++ [ORef.tok n w.heap.size 0 (es + 1) n el])[σ.length]? = some (.tok n w.heap.size 0 (es + 1) n el) := by rw [s.len]; simp
    refine ⟨.slice (some ⟨w.heap.size, 0, none⟩) n n, _, _, ?_, ?_, x1, s1⟩
    · have e2 : (Array.map (fun x => (match x with | (i, x) => (i, ac.eval x) : Nat × Value)) ps).toList = ps.toList.map fun (x : Nat × Operand) => (x.1, ac.eval x.2) := by simp
      have hnz : ¬ n * (es + 1) = 0 := by
        have : 0 < n * (es + 1) := Nat.mul_pos hn (Nat.succ_pos es)
        omega
      have hnb : ¬ n * (es + 1) > 2 ^ 24 := by omega
      simp only [Instr.buildSlice, Sem.run_bind, r_und ht, Result.andThen_ok, r_size hs, hnb, hnz, if_false, h1, Sem.run_pure]
      have e3 : (Array.range (n * (es + 1))) = Array.range (n * zv.cells.size) := by rw [hzs]
      rw [e3, e2, h6]
      simp [newRow]
    · have := list_mk (tok := some σ.length) (l := chunks (es + 1) n cs) (b := w.heap.size) (o := 0) (cap := n) (c := out.toList) c2 (c3 ▸ h7.mono x1) (fun q u hq => by
          have : out.toList = out.toList ++ [] := by simp
          have h9 := cells_new (w := w) (d := []) (el := el) hq
          simpa using h9) h8 (fun _ => by simp [c1]) (Nat.le_of_eq c1) (tok_one hr c1 rfl)
      rw [c1] at this
      exact this

/-- A text that shares bytes. -/
theorem Sim.freeze (s : Sim w0 φ σ w) {b o n : Nat} (hn : 0 < n) (hh : o + n ≤ φ.hi b) (hB : w0.heap.size ≤ b) : Ext φ w φ (w.freeze ⟨b, o, none⟩ n) ∧ Sim w0 φ σ (w.freeze ⟨b, o, none⟩ n) := by
  have hoth : ∀ k, k ≠ b → (w.freeze ⟨b, o, none⟩ n).heap[k]? = w.heap[k]? := by
    intro k hk
    simp only [World.freeze, if_neg (show n ≠ 0 by omega), Array.getElem?_modify]
    rw [if_neg (Ne.symm hk)]
  have hb : ∀ c el fr, w.heap[b]? = some (.cells c el fr) → ∃ fr', (w.freeze ⟨b, o, none⟩ n).heap[b]? = some (.cells c el fr') ∧ fr'.2 ≤ max fr.2 (o + n) := by
    intro c el fr h
    obtain ⟨lo, hi⟩ := fr
    simp only [World.freeze, if_neg (show n ≠ 0 by omega), Array.getElem?_modify, h, if_true, Option.map_some]
    refine ⟨_, rfl, ?_⟩
    split <;> simp <;> omega
  have hcell : ∀ k i, (w.freeze ⟨b, o, none⟩ n).cell? ⟨k, i, none⟩ = w.cell? ⟨k, i, none⟩ := by
    intro k i
    by_cases hk : k = b
    · subst hk
      cases hw : w.heap[k]? with
      | none => simp [World.cell?, World.freeze, if_neg (show n ≠ 0 by omega), Array.getElem?_modify, hw]
      | some ob =>
        cases ob with
        | cells c el fr =>
          obtain ⟨fr', h1, _⟩ := hb c el fr hw
          rw [cell_of_block h1, cell_of_block hw]
        | _ => simp [World.cell?, World.freeze, if_neg (show n ≠ 0 by omega), Array.getElem?_modify, hw]
    · simp only [World.cell?, hoth k hk]
  have x : Ext φ w φ (w.freeze ⟨b, o, none⟩ n) := ⟨fun _ r h => ⟨r, h, r.le_refl⟩, fun _ => Nat.le_refl _, fun k i _ => hcell k i⟩
  refine ⟨x, ⟨s.len, ?_, s.uniq, ?_, ?_⟩⟩
  · intro g ob r h1 h2
    have ho := s.obj g ob r h1 h2
    by_cases hob : owns ob r = some b
    · cases ob with
      | cells cs =>
        obtain ⟨b', sz, rfl, _, h4, _⟩ := ho
        simp only [owns, Option.some.injEq] at hob; subst hob
        omega
      | map es =>
        obtain ⟨b', rfl, _, h4, _⟩ := ho
        simp only [owns, Option.some.injEq] at hob; subst hob
        omega
      | tok m el =>
        obtain ⟨b', o', es, c, rfl, p0, p1, p2, p3, ce, fr, p4, p5, p6⟩ := ho
        simp only [owns, Option.some.injEq] at hob; subst hob
        obtain ⟨fr', k1, k2⟩ := hb ce el fr p4
        exact ⟨b', o', es, c, rfl, p0, p1, p2, p3, ce, fr', k1, p5, by omega⟩
      | dead => trivial
    · exact ho.mono x fun b' hb' => ⟨hoth b' (fun e => hob (e ▸ hb')), rfl⟩
  · intro k hk
    obtain ⟨c, el, fr, h1, h2⟩ := s.hiok k hk
    by_cases hkb : k = b
    · subst hkb
      obtain ⟨fr', k1, _⟩ := hb c el fr h1
      exact ⟨c, el, fr', k1, h2⟩
    · exact ⟨c, el, fr, (hoth k hkb).trans h1, h2⟩
  · have f := s.frame
    have e : w.freeze ⟨b, o, none⟩ n = { w with heap := (w.freeze ⟨b, o, none⟩ n).heap } := by simp [World.freeze, if_neg (show n ≠ 0 by omega)]
    refine ⟨by rw [e]; exact f.os, by rw [e]; exact f.tape, by rw [e]; exact f.output, ?_, fun k hk => (hoth k (by omega)).trans (f.block k hk)⟩
    have : (w.freeze ⟨b, o, none⟩ n).heap.size = w.heap.size := by simp [World.freeze, if_neg (show n ≠ 0 by omega)]
    rw [this]; exact f.size

end
end Go.Am

namespace Go.Am
open Go Go.RowKit

section
variable {P : Program} {w0 : World} {φ : Phi} {σ : ASt} {w : World} {a : Frame} {ac : Act}

theorem r_loadBytes {b o : Nat} : ∀ (ns : List Int) (i : Nat) (acc : ByteArray), (∀ (q : Nat) n, ns[q]? = some n → w.cell? ⟨b, o + i + q, none⟩ = some (.int .u8 n)) →
    (loadBytes ⟨b, o + i, none⟩ acc ns.length).run P w = .ok ⟨acc.data ++ (ns.map fun n => UInt8.ofNat n.toNat).toArray⟩ w
  | [], i, acc, _ => by simp [loadBytes]
  | n :: ns, i, acc, h => by
    have h0 := h 0 n rfl
    simp only [Nat.add_zero] at h0
    simp only [List.length_cons, loadBytes, Sem.run_bind, run_load, h0, Result.andThen_ok]
    have hadd : (Addr.mk b (o + i) none).add 1 = ⟨b, o + (i + 1), none⟩ := by rw [add_none]; rfl
    rw [hadd, r_loadBytes ns (i + 1) _ (fun q m hq => by
      have := h (q + 1) m (by simpa using hq)
      rw [show o + (i + 1) + q = o + i + (q + 1) by omega]; exact this)]
    congr 1
    apply ByteArray.ext
    simp [ByteArray.push]

theorem lies_own {el : TypeId} {count off n : Nat} (hs : szOf P el = some 1) (h : off + n ≤ count) : liesAt P P.depth el (count / P.cellsOf el) off el n = true := by
  have hc : P.cellsOf el = 1 := by
    unfold szOf at hs
    unfold Program.cellsOf
    rw [hs]; rfl
  have hd : P.depth = (2 * (P.types.size + Made.depth) + 1) + 1 := rfl
  rw [hd]
  generalize 2 * (P.types.size + Made.depth) + 1 = d
  rw [hc, liesAt]
  have hrow : rowAt P (sameLayout P P.depth · el) P.depth el (count / 1) off n = true := by
    rw [hd, rowAt]
    simp only [hc]
    have : sameLayout P (2 * (P.types.size + Made.depth) + 1 + 1) el el = true := by simp [sameLayout]
    simp [this, Nat.div_one, Nat.mod_one, h]
  rw [hrow]; rfl

/-- A string at a pointer, where there are bytes. -/
theorem ustr_pos (pt T : TypeId) (a : Addr) (k : IntKind) (n : Int) : ∃ x y z u : Sem Value, Builtin.unsafeString_ #[pt] T #[.pointer (some a), .int k n] =
    if n < 0 then x else if n > IntKind.i64.max then y else if n = 0 then z else
      elemOf pt >>= fun t => variablesAt a t n.toNat >>= fun b => if b = true then loadBytes a .empty n.toNat >>= fun s => Go.freeze a n.toNat >>= fun _ => pure (.string s) else u :=
  ⟨_, _, _, _, rfl⟩

theorem flat_ints (ns : List Int) : flat (ns.map (AVal.int .u8)) = ns.map (AVal.int .u8) := by
  induction ns with
  | nil => rfl
  | cons x ns ih => simp only [flat, List.map_cons, List.flatMap_cons] at ih ⊢; rw [ih]; rfl

theorem does_ustr (s : Sim w0 φ σ w) {pt T el : TypeId} {p n v : AVal} {cp cn : Value} {σ' : ASt} (hpt : P.underlying pt = some (.pointer el)) (hs : szOf P el = some 1) (hp : VR φ w p cp) (hn : VR φ w n cn) (h : austr el p n σ = .ok v σ') : Does P w0 φ w (Builtin.unsafeString_ #[pt] T #[cp, cn]) v σ' := by
  unfold austr at h
  split at h
  · split at h
    · rename_i e
      cases h
      subst e
      cases hp
      cases hn
      refine ⟨.string .empty, φ, w, ?_, .str [], Ext.refl φ w, s⟩
      rfl
    · cases h
  · rename_i k l j m
    split at h
    · rename_i n' el' bs hk hbs
      split at h
      · rename_i hc
        obtain ⟨rfl, h1, h2, rfl, rfl⟩ := hc
        cases h
        cases hn
        cases hp with
        | dptr _ b o n2 c2 hl =>
          obtain ⟨b', o', cap, c, e, q1, q2, q3, q4, q5, q6, q7⟩ := list_inv hl (Nat.succ_pos 0)
          cases e
          obtain ⟨n', b2, o2, c', el2, hr, hle, heq⟩ := q7 k rfl
          obtain ⟨r2, hr2, hok⟩ := s.ref hk
          rw [hr] at hr2; cases hr2
          obtain ⟨b'', o'', es'', c'', e, p0, p1, p2, p3, ce, fr, p4, p5, p6⟩ := hok
          cases e
          obtain ⟨rfl, rfl, rfl⟩ := heq rfl
          obtain ⟨ns, rfl, rfl⟩ := bytes_list _ _ hbs
          have hcell : ∀ (q : Nat) n, ns[q]? = some n → w.cell? ⟨b2, o2 + 0 + q, none⟩ = some (.int .u8 n) := by
            intro q n hq
            have hfl := flat_ints ns
            rw [hfl] at q2
            have hlt : q < c.length := by
              rw [← q2.1]
              rcases Nat.lt_or_ge q ns.length with h' | h'
              · simpa using h'
              · rw [List.getElem?_eq_none h'] at hq; cases hq
            have h9 := q2.2 q (.int .u8 n) c[q] (by simp [hq]) (by simp [hlt])
            rw [Nat.add_zero, q3 q c[q] (by simp [hlt])]
            rw [vr_int h9]
          obtain ⟨x1, s1⟩ := s.freeze (b := b2) (o := o2) (n := ns.length) (by simpa using h1) (by rw [p3]; simp) p2
          refine ⟨.string ⟨(ns.map fun n => UInt8.ofNat n.toNat).toArray⟩, φ, _, ?_, .str _, x1, s1⟩
          have hlb := r_loadBytes (P := P) (w := w) (b := b2) (o := o2) ns 0 .empty hcell
          have e3 : (ByteArray.mk (ByteArray.empty.data ++ (ns.map fun n => UInt8.ofNat n.toNat).toArray)) = ⟨(ns.map fun n => UInt8.ofNat n.toNat).toArray⟩ := by
            apply ByteArray.ext; apply Array.ext'; simp
          rw [e3] at hlb
          have hshape : w.shape? b2 = some (el, ce.size) := by simp [World.shape?, p4]
          have hva : (variablesAt ⟨b2, o2, none⟩ el ns.length).run P w = .ok true w := by
            simp only [variablesAt, Sem.run_bind, run_program, Result.andThen_ok, run_shape, hshape, Sem.run_pure]
            rw [lies_own hs (by simp at p5 p6 q6; omega)]
          have hlen : ((ns.map (AVal.int IntKind.u8)).length : Int) = (ns.length : Int) := by simp
          have h0 : ¬ ((ns.length : Int) < 0) := by omega
          have h62 : ¬ ((ns.length : Int) > IntKind.i64.max) := by
            simp at h2
            simp [IntKind.max, IntKind.signed, IntKind.bits]; omega
          have hnz : ¬ ((ns.length : Int) = 0) := by simp at h1; omega
          rw [hlen]
          obtain ⟨x', y', z', u', hu⟩ := ustr_pos pt T ⟨b2, o2, none⟩ j (ns.length : Int)
          rw [hu]
          have hel : (elemOf pt).run P w = .ok el w := by simp [elemOf, r_und hpt]
          simp only [h0, h62, hnz, if_false, Int.toNat_natCast]
          simp only [Sem.run_bind, hel, Result.andThen_ok, hva, if_true, Nat.add_zero] at hlb ⊢
          simp only [hlb, Result.andThen_ok, run_freeze, Sem.run_pure]
      · cases h
    · cases h
  · cases h

theorem flat_take {es : Nat} : ∀ {l : List AVal}, (∀ e ∈ l, e.cells.length = es) → ∀ k, flat (l.take k) = (flat l).take (k * es)
  | [], _, k => by simp [flat]
  | e :: l, h, 0 => by simp [flat]
  | e :: l, h, k + 1 => by
    have he := h e (List.mem_cons_self ..)
    have ih := flat_take (l := l) (fun e he => h e (List.mem_cons_of_mem _ he)) k
    simp only [flat, List.take_succ_cons, List.flatMap_cons] at ih ⊢
    have hx : (k + 1) * es - e.cells.length = k * es := by rw [he, Nat.add_mul]; omega
    have hy : e.cells.take ((k + 1) * es) = e.cells := List.take_of_length_le (by rw [he, Nat.add_mul]; omega)
    rw [ih, List.take_append, hx, hy]

theorem does_copy (s : Sim w0 φ σ w) {dt el es : TypeId} {at2 T : TypeId} {x y v : AVal} {cx cy : Value} {σ' : ASt} (hdt : P.underlying dt = some (.slice el)) (hs : szOf P el = some (es + 1)) (hx : VR φ w x cx) (hy : VR φ w y cy) (h : acopy (es + 1) x y σ = .ok v σ') :
    Does P w0 φ w (Builtin.copy_ #[dt, at2] T #[cx, cy]) v σ' := by
  unfold acopy at h
  split at h
  · rename_i xs g es' off len hxs
    split at h
    · rename_i e
      subst e
      obtain ⟨c, h1, h2, h3, h4, h5⟩ := first_cells (P := P) (Nat.succ_pos es) hy hxs
      cases hx with
      | mslice _ _ _ _ b sz cap hr hcap hsz =>
        have hl := h5 (min xs.length len) (Nat.min_le_left _ _)
        have hfl : (xs.take (min xs.length len)).flatMap AVal.cells = (flat xs).take (min xs.length len * (es + 1)) := flat_take h1 _
        have h : (put σ g (off * (es + 1)) ((xs.take (min xs.length len)).flatMap AVal.cells)).bind (fun _ => R.ok (AVal.int .i64 (min xs.length len : Nat))) = R.ok v σ' := h
        rw [hfl] at h
        cases hp : put σ g (off * (es + 1)) ((flat xs).take (min xs.length len * (es + 1))) with
        | ok u σ2 =>
          rw [hp] at h
          cases h
          obtain ⟨q1, q2, q3, q4⟩ := put_ok (P := P) s hr hp (h2.take _) (fun u hu => h3 u (List.mem_of_mem_take hu))
          refine ⟨.int .i64 (min xs.length len : Nat), φ, _, ?_, .int _ _, q2, q3⟩
          have hmin : Nat.min xs.length len = min xs.length len := rfl
          simp only [Builtin.copy_, List.getElem?_toArray, List.getElem?_cons_zero, List.getElem?_cons_succ, Sem.run_bind, r_und hdt, Result.andThen_ok, h4, r_size hs, hmin]
          rw [hl]
          simp only [Result.andThen_ok, q1, Sem.run_pure, goInt]
        | panic u σ2 => rw [hp] at h; cases h
        | bad => rw [hp] at h; cases h
    · cases h
  · cases h

end
end Go.Am

namespace Go.Am
open Go Go.RowKit

section
variable {P : Program} {w0 : World} {φ : Phi} {σ : ASt} {w : World} {a : Frame} {ac : Act}

/-- An operation that is no call comes to a value (or to none), and turns the state. -/
def EGives (P : Program) (w0 : World) (φ : Phi) (w : World) (x : Sem Next) (v : AVal) (σ' : ASt) : Prop :=
  ∃ φ' w', ((∃ cv, x.run P w = .ok (.value cv) w' ∧ VR φ' w' v cv) ∨ (x.run P w = .ok .skip w' ∧ v = .undef)) ∧ Ext φ w φ' w' ∧ Sim w0 φ' σ' w'

theorem eg {x : Sem Value} {y : Sem Next} {v : AVal} {σ' : ASt} (h : Does P w0 φ w x v σ') (e : y = (do pure (.value (← x)))) : EGives P w0 φ w y v σ' := by
  obtain ⟨cv, φ', w', h1, h2, h3, h4⟩ := h
  subst e
  exact ⟨φ', w', .inl ⟨cv, by simp [h1], h2⟩, h3, h4⟩

theorem egu {x : Sem Unit} {y : Sem Next} {v : AVal} {σ' : ASt} (h : DoesU P w0 φ w x σ' ∧ v = .undef) (e : y = (do x; pure .skip)) : EGives P w0 φ w y v σ' := by
  obtain ⟨⟨φ', w', h1, h3, h4⟩, rfl⟩ := h
  subst e
  exact ⟨φ', w', .inr ⟨by simp [h1], rfl⟩, h3, h4⟩

theorem ats_ustr {ats : Array TypeId} {pt : TypeId} (h : ats[0]? = some pt) (T : TypeId) (vs : Array Value) : Builtin.unsafeString_ ats T vs = Builtin.unsafeString_ #[pt] T vs := by
  unfold Builtin.unsafeString_; rw [h]; rfl
theorem ats_append {ats : Array TypeId} {st xt : TypeId} (h : ats[0]? = some st) (h' : ats[1]? = some xt) (T : TypeId) (vs : Array Value) : Builtin.append_ ats T vs = Builtin.append_ #[st, xt] T vs := by
  unfold Builtin.append_; rw [h, h']; rfl
theorem ats_copy {ats : Array TypeId} {st : TypeId} (h : ats[0]? = some st) (T : TypeId) (vs : Array Value) : Builtin.copy_ ats T vs = Builtin.copy_ #[st, 0] T vs := by
  unfold Builtin.copy_; rw [h]; rfl

def EOp.plain : EOp → Bool
  | .call .. | .callv .. | .panic .. | .res .. | .fillA .. | .fillS .. | .fillM .. => false
  | _ => true

/-- THE OPERATIONS THAT MAKE OR CHANGE SOMETHING. -/
theorem e_ok (s : Sim w0 φ σ w) (fr : FR φ w a ac.tmps) {o : Oper} {e : EOp} {v : AVal} {σ' : ASt} {call : FuncId → List AVal → M AVal} (h : trOp P o = some (.e e)) (hp : e.plain = true) (hv : e.ev call a σ = .ok v σ') : EGives P w0 φ w (execOp ac.eval o) v σ' := by
  obtain ⟨dst, op, type, pos, after, guard⟩ := o
  cases op <;> simp only [trOp] at h
  case move x => simp at h
  case assign x =>
    simp at h
    obtain ⟨y, hy, rfl⟩ := h
    cases hv
    exact ⟨φ, w, .inl ⟨ac.eval x, rfl, opd_ok fr hy⟩, Ext.refl φ w, s⟩
  case pick c x y => split at h <;> simp at h
  case alloc t =>
    simp at h
    obtain ⟨z, hz, rfl⟩ := h
    cases hv
    exact eg (does_alloc s hz) rfl
  case box t x =>
    simp at h
    obtain ⟨y, hy, rfl⟩ := h
    exact eg (does_box s (opd_ok fr hy) hv) rfl
  case build t ps =>
    split at h
    · split at h
      · simp at h
      · cases h
    · split at h
      · simp at h
      · cases h
    · cases h
  case buildSlice t n ps =>
    split at h
    · split at h
      · split at h
        · rename_i hc
          simp at h
          obtain ⟨l, hl, rfl⟩ := h
          exact eg (does_bslice s fr ‹_› (cellsOf_eq ‹_›).1 ‹_› hc.1 hc.2.1 hc.2.2 hl hv) rfl
        · cases h
      · cases h
    · cases h
  case insert t m k x =>
    split at h
    · split at h <;> simp at h
      subst h
      exact egu (does_mapupd s ‹_› ‹_› (opd_ok fr ‹_›) (opd_ok fr ‹_›) (opd_ok fr ‹_›) hv) rfl
    · cases h
  case mapUpdate t m k x =>
    split at h
    · split at h <;> simp at h
      subst h
      exact egu (does_mapupd s ‹_› ‹_› (opd_ok fr ‹_›) (opd_ok fr ‹_›) (opd_ok fr ‹_›) hv) rfl
    · cases h
  case load t p => split at h <;> simp at h
  case store t p x =>
    split at h <;> simp at h
    subst h
    exact egu (does_store s ‹_› (opd_ok fr ‹_›) (opd_ok fr ‹_›) hv) rfl
  case ready g => cases h
  case waits g => cases h
  case nilCheck x => simp at h
  case binOp op t x y u => simp at h
  case unOp op t x => simp at h
  case convert s d x =>
    split at h
    · simp at h
    · cases h
  case sliceToArrayPointer => cases h
  case makeInterface t x => split at h <;> cases h
  case makeFunc fn f c => split at h <;> simp at h
  case makeMap t r =>
    cases r <;> simp at h
    subst h
    cases hv
    exact eg (does_mkmap s t) rfl
  case makeChan => cases h
  case makeSlice t l c =>
    split at h
    · rename_i el l c ht
      split at h
      · rename_i es z i hcs hz hi
        split at h <;> simp at h
        rename_i hc
        subst h
        obtain ⟨rfl, hc2, hc3⟩ := hc
        exact eg (does_mkslice s ht (cellsOf_eq hcs).1 hz hc2 hi hc3 (fr l) hv) rfl
      · cases h
    · rename_i el kl l kc c ht
      split at h
      · rename_i es z i hcs hz hi
        split at h <;> simp at h
        rename_i hc
        subst h
        obtain ⟨rfl, hc2, hc3⟩ := hc
        have key : Does P w0 φ w (Instr.makeSlice t (.int .i64 l) (.int .i64 l)) v σ' := does_mkslice s ht (cellsOf_eq hcs).1 hz hc2 hi hc3 (.int .i64 l) hv
        refine eg (x := Instr.makeSlice t (.int kl l) (.int kc l)) ?_ rfl
        obtain ⟨cv, φ', w', h1, h2⟩ := key
        exact ⟨cv, φ', w', by simpa [Instr.makeSlice, asInt, asIntOf] using h1, h2⟩
      · cases h
    · cases h
  case slice t x lo hi mx =>
    cases mx with
    | some m => cases h
    | none =>
      simp only at h
      split at h
      · cases h
      · split at h <;> simp at h
      · split at h <;> simp at h
      · cases h
  case fieldAddr t x f =>
    split at h
    · split at h <;> simp at h
    · cases h
  case field t x f =>
    split at h
    · split at h
      · simp at h
      · cases h
    · cases h
  case indexAddr t x i =>
    split at h
    · simp at h
    · split at h <;> simp at h
    · cases h
  case index t x i =>
    split at h
    · split at h <;> simp at h
    · cases h
    · cases h
  case lookup t m k ok =>
    split at h
    · split at h <;> simp at h
    · cases h
  case mapEntry => cases h
  case entryStore => cases h
  case range => cases h
  case next => cases h
  case entry => cases h
  case typeAssert x xt t ok =>
    cases ok with
    | false => simp only at h; split at h <;> cases h
    | true =>
      simp only at h
      split at h <;> cases h
  case extract t i => simp at h
  case call c =>
    obtain ⟨callee, args, ats⟩ := c
    cases callee with
    | value f =>
      cases f <;> simp only [] at h
      · simp at h
        obtain ⟨as, _, rfl⟩ := h
        simp [EOp.plain] at hp
      · cases h
      · cases h
      · split at h
        · split at h
          · obtain ⟨x, _, e⟩ := trFmt_q h
            cases e
          · split at h
            · simp at h
              subst h
              simp [EOp.plain] at hp
            · obtain ⟨_, _, e, _⟩ := trExt_q h
              cases e
        · cases h
    | invoke r m => cases h
    | builtin b =>
      cases b <;> simp only [] at h
      case len => split at h <;> cases h
      case max => split at h <;> cases h
      case unsafeSliceData => split at h <;> cases h
      case unsafeString =>
        split at h
        · split at h <;> simp at h
          subst h
          rename_i el p n ht hx hs
          obtain ⟨pt, k1, k2⟩ := bind_und ht
          obtain ⟨cp, cn, k3, k4, k5⟩ := args_two fr hx
          refine eg (x := Builtin.unsafeString_ ats type (args.map ac.eval)) ?_ rfl
          rw [k3, ats_ustr k1]
          exact does_ustr s k2 hs k4 k5 hv
        · cases h
      case append =>
        split at h
        · rename_i el d x y ht hxt hx
          obtain ⟨st, k1, k2⟩ := bind_und ht
          obtain ⟨xt, k1', k2'⟩ := bind_und hxt
          obtain ⟨cp, cn, k3, k4, k5⟩ := args_two fr hx
          split at h
          · split at h <;> simp at h
            rename_i hc
            subst h
            refine eg (x := Builtin.append_ ats type (args.map ac.eval)) ?_ rfl
            rw [k3, ats_append k1 k1']
            exact does_append s k2 k2' (.inl ⟨_, rfl⟩) (cellsOf_eq ‹_›).1 ‹_› hc.1 ‹_› hc.2 k4 k5 hv
          · split at h <;> simp at h
            rename_i hc
            subst h
            refine eg (x := Builtin.append_ ats type (args.map ac.eval)) ?_ rfl
            rw [k3, ats_append k1 k1']
            exact does_append s k2 k2' (.inr rfl) (cellsOf_eq ‹_›).1 ‹_› hc.1 ‹_› hc.2 k4 k5 hv
          · cases h
        · cases h
      case copy =>
        split at h
        · rename_i el x y ht hx
          obtain ⟨st, k1, k2⟩ := bind_und ht
          obtain ⟨cp, cn, k3, k4, k5⟩ := args_two fr hx
          split at h <;> simp at h
          subst h
          refine eg (x := Builtin.copy_ ats type (args.map ac.eval)) ?_ rfl
          rw [k3, ats_copy k1]
          exact does_copy s k2 (cellsOf_eq ‹_›).1 k4 k5 hv
        · cases h
      all_goals cases h
  case go => cases h
  case defer => cases h
  case panic x =>
    simp at h
    obtain ⟨y, hy, rfl⟩ := h
    simp [EOp.plain] at hp
  case send => cases h
  case recv => cases h
  case select => cases h

end
end Go.Am

namespace Go.Am
open Go Go.RowKit

/-- An operation that makes something, at a place that was kept for it. -/
def EOp.fl : Option Nat → EOp → EOp
  | some j, .alloc t z => .fillA j t z
  | some j, .mkslice el es z x => .fillS j el es z x
  | some j, .mkmap => .fillM j
  | _, e => e

section
variable {P : Program} {w0 : World} {φ : Phi} {σ : ASt} {w : World} {a : Frame} {ac : Act}

theorem afill_inv {j : Nat} {o : AObj} {f : Nat → AVal} {v : AVal} {σ' : ASt} (h : afill j o f σ = .ok v σ') : σ[σ.length - j]? = some .dead ∧ v = f (σ.length - j) ∧ σ' = σ.set (σ.length - j) o := by
  unfold afill at h
  split at h
  · rename_i hd; cases h; exact ⟨hd, rfl, rfl⟩
  · cases h

theorem does_fillCells (s : Sim w0 φ σ w) {p : Nat} (hp : σ[p]? = some .dead) {cs : List AVal} {c : Array Value} (el : TypeId) (hv : VRs φ w cs c.toList) (ho : ∀ v ∈ c.toList, v.oneCell' = true) :
    ∃ φ', Ext φ w φ' (w.alloc (.cells c el)) ∧ Sim w0 φ' (σ.set p (.cells el cs)) (w.alloc (.cells c el)) ∧ VR φ' (w.alloc (.cells c el)) (.ptr p 0) (.pointer (some ⟨w.heap.size, 0, none⟩)) ∧ φ'.objs[p]? = some (.cell w.heap.size c.size) := by
  have hl : cs.length = c.size := by simpa using hv.1
  obtain ⟨x, s'⟩ := s.fillCells hp cs c el hl (fun i a v h1 h2 => hv.2 i a v h1 (by simpa using h2)) ho
  have hr : (φ.objs.set p (ORef.cell w.heap.size c.size))[p]? = some (.cell w.heap.size c.size) := by
    have := s.len ▸ lt_of_get hp
    simp [this]
  exact ⟨_, x, s', .ptr _ _ _ _ hr, hr⟩

theorem does_fillA (s : Sim w0 φ σ w) {t : TypeId} {z : List AVal} (hz : zeroCs P t = some z) {j : Nat} {v : AVal} {σ' : ASt} (h : afill j (.cells t z) (fun g => .ptr g 0) σ = .ok v σ') : Does P w0 φ w (Instr.alloc t true (.tuple #[])) v σ' := by
  obtain ⟨hd, rfl, rfl⟩ := afill_inv h
  obtain ⟨v, h1, h2, h3⟩ := zeroCs_ok hz φ w
  obtain ⟨φ', x, s', hv, _⟩ := does_fillCells s hd t h2 h3
  exact ⟨_, φ', _, by simp [Instr.alloc, h1, newVar, newRow], hv, x, s'⟩

theorem does_fillM (s : Sim w0 φ σ w) (t : TypeId) {j : Nat} {v : AVal} {σ' : ASt} (h : afill j (.map []) (fun g => .map g) σ = .ok v σ') : Does P w0 φ w (Instr.makeMap t none) v σ' := by
  obtain ⟨hd, rfl, rfl⟩ := afill_inv h
  obtain ⟨x, s'⟩ := s.fillMap hd
  have hr : (φ.objs.set (σ.length - j) (ORef.map w.heap.size))[σ.length - j]? = some (.map w.heap.size) := by
    have hlt : σ.length - j < φ.objs.length := by rw [← s.len]; exact lt_of_get hd
    simp [hlt]
  exact ⟨_, _, _, by simp [Instr.makeMap], .map _ _ hr, x, s'⟩

theorem does_fillS (s : Sim w0 φ σ w) {t el es j : TypeId} {z : List AVal} {i : TypeInfo} {x v : AVal} {cx : Value} {σ' : ASt} (ht : P.underlying t = some (.slice el)) (hs : szOf P el = some (es + 1)) (hz : zeroCs P el = some z) (hl : z.length = es + 1) (hi : P.info? el = some i) (hb : i.bytes ≤ 256)
    (hx : VR φ w x cx) (h : afillS j el (es + 1) z x σ = .ok v σ') : Does P w0 φ w (Instr.makeSlice t cx cx) v σ' := by
  unfold afillS at h
  split at h
  case h_2 => cases h
  rename_i k n
  cases hx
  split at h
  · rename_i hn
    obtain ⟨hd, rfl, rfl⟩ := afill_inv h
    obtain ⟨zv, h1, h2, h3⟩ := zeroCs_ok hz φ w
    have hzl : zv.cells.size = es + 1 := by have := h2.1; simp at this; omega
    obtain ⟨q1, q2⟩ := zeros_ok h2 h3 n.toNat
    rw [hzl] at q1 q2
    obtain ⟨φ', x, s', hv, hr⟩ := does_fillCells s hd el q1 q2
    have hw := wrap_small hn.1 hn.2
    have hbn : (i.bytes : Int) * n ≤ 2 ^ 48 := by
      have : (i.bytes : Int) * n ≤ 256 * n := Int.mul_le_mul_of_nonneg_right (by omega) hn.1
      omega
    have hsz' : n.toNat * (es + 1) = ((Array.range (n.toNat * (es + 1))).map (zv.cells[· % (es + 1)]!)).size := by simp
    refine ⟨.slice (some ⟨w.heap.size, 0, none⟩) n.toNat n.toNat, φ', _, ?_, ?_, x, s'⟩
    · have hc : (decide (n < 0) || decide ((i.bytes : Int) * n > 2 ^ 48) || decide (n < 0) || decide (n > n)) = false := by simp; omega
      simp only [Instr.makeSlice, Sem.run_bind, r_und ht, Result.andThen_ok, asInt, asIntOf, Sem.run_pure, r_info hi, hw, hc, Bool.false_eq_true, if_false, run_askRoom, r_size hs]
      by_cases h0 : n.toNat * (es + 1) = 0
      · simp only [h0, if_true, Sem.run_pure, Result.andThen_ok, newRow, Sem.run_bind, run_newObj]
        have e : ∀ f g : Nat → Value, (Array.range 0).map f = (Array.range 0).map g := fun f g => by simp
        rw [e _ (fun i => zv.cells[i % (es + 1)]!)]
        rfl
      · simp only [h0, if_false, Sem.run_bind, h1, Sem.run_pure, Result.andThen_ok, newRow, run_newObj, hzl]
        rfl
    · have := VR.mslice (σ.length - j) (es + 1) 0 n.toNat w.heap.size _ n.toNat hr (w := w.alloc (.cells ((Array.range (n.toNat * (es + 1))).map (zv.cells[· % (es + 1)]!)) el)) (Nat.le_refl _) (by rw [← hsz']; simp)
      simpa using this
  · cases h

/-- Which operations make something. -/
def MakeShape (P : Program) (o : Oper) : EOp → Prop
  | .alloc t z => o.op = .alloc t ∧ zeroCs P t = some z
  | .mkmap => ∃ t, o.op = .makeMap t none
  | .mkslice el es z x => ∃ t l c i es', P.underlying t = some (.slice el) ∧ es = es' + 1 ∧ szOf P el = some (es' + 1) ∧ zeroCs P el = some z ∧ z.length = es' + 1 ∧ P.info? el = some i ∧ i.bytes ≤ 256 ∧
      ((∃ s, o.op = .makeSlice t (.tmp s) (.tmp s) ∧ x = .t s) ∨ (∃ k k', o.op = .makeSlice t (.const (.int k l)) (.const (.int k' c)) ∧ l = c ∧ x = .v (.int .i64 l)))
  | _ => True

theorem makeShape {o : Oper} {e : EOp} (h : trOp P o = some (.e e)) : MakeShape P o e := by
  obtain ⟨dst, op, type, pos, after, guard⟩ := o
  cases op
  case alloc t =>
    simp [trOp] at h
    obtain ⟨z, hz, rfl⟩ := h
    exact ⟨rfl, hz⟩
  case makeMap t r =>
    cases r <;> simp [trOp] at h
    subst h
    exact ⟨t, rfl⟩
  case makeSlice t l c =>
    simp only [trOp] at h
    split at h
    · rename_i el l c ht
      split at h
      · rename_i es z i hcs hz hi
        split at h <;> simp at h
        rename_i hc
        subst h
        obtain ⟨rfl, hc2, hc3⟩ := hc
        exact ⟨t, 0, 0, i, es, ht, rfl, (cellsOf_eq hcs).1, hz, hc2, hi, hc3, .inl ⟨l, rfl, rfl⟩⟩
      · cases h
    · rename_i el kl l kc c ht
      split at h
      · rename_i es z i hcs hz hi
        split at h <;> simp at h
        rename_i hc
        subst h
        obtain ⟨rfl, hc2, hc3⟩ := hc
        exact ⟨t, l, l, i, es, ht, rfl, (cellsOf_eq hcs).1, hz, hc2, hi, hc3, .inr ⟨kl, kc, rfl, rfl, rfl⟩⟩
      · cases h
    · cases h
  case call c =>
    obtain ⟨callee, args, ats⟩ := c
    cases callee
    case value x =>
      cases x
      case func f =>
        simp only [trOp] at h
        split at h
        · split at h
          · obtain ⟨x, _, e⟩ := trFmt_q h
            cases e
          · split at h
            · simp at h; subst h; trivial
            · obtain ⟨_, _, e, _⟩ := trExt_q h
              cases e
        · cases h
      case tmp t =>
        simp only [trOp] at h
        simp at h
        obtain ⟨as, h1, rfl⟩ := h
        trivial
      all_goals simp [trOp] at h
    case builtin b =>
      cases b <;> simp only [trOp] at h
      all_goals (repeat' split at h)
      all_goals (first | (cases h; done) | (simp at h; done) | (simp at h; subst h; trivial))
    case invoke => simp [trOp] at h
  case panic y =>
    simp [trOp] at h
    obtain ⟨x, h1, rfl⟩ := h
    trivial
  all_goals simp only [trOp] at h
  all_goals (repeat' split at h)
  all_goals (first | (cases h; done) | (simp at h; done) | (simp at h; subst h; trivial) | (obtain ⟨_, _, e⟩ := trFmt_q h; cases e; done) | (obtain ⟨_, _, e, _⟩ := trExt_q h; cases e; done) | (simp at h; obtain ⟨y, hy, rfl⟩ := h; trivial))

/-- Something is made at a place that was kept for it. -/
theorem fill_ok (s : Sim w0 φ σ w) (fr : FR φ w a ac.tmps) {o : Oper} {e : EOp} {v : AVal} {σ' : ASt} {call : FuncId → List AVal → M AVal} {fl : Option Nat} (h : trOp P o = some (.e e)) (hp : e.fl fl ≠ e) (hv : (e.fl fl).ev call a σ = .ok v σ') :
    EGives P w0 φ w (execOp ac.eval o) v σ' := by
  have sh := makeShape h
  cases fl with
  | none => exact absurd (by cases e <;> rfl) hp
  | some j =>
    obtain ⟨dst, op, type, pos, after, guard⟩ := o
    cases e <;> first | exact absurd rfl hp | skip
    case alloc t z =>
      obtain ⟨h1, h2⟩ := sh
      simp only at h1
      subst h1
      exact eg (does_fillA s h2 hv) rfl
    case mkmap =>
      obtain ⟨t, h1⟩ := sh
      simp only at h1
      subst h1
      exact eg (does_fillM s t hv) rfl
    case mkslice el es z x =>
      obtain ⟨t, l, c, i, es', ht, rfl, h2, h3, h4, h5, h6, h7⟩ := sh
      rcases h7 with ⟨l, h7, rfl⟩ | ⟨k, k', h7, rfl, rfl⟩
      · simp only at h7
        subst h7
        exact eg (does_fillS s ht h2 h3 h4 h5 h6 (fr l) hv) rfl
      · simp only at h7
        subst h7
        have key : Does P w0 φ w (Instr.makeSlice t (.int .i64 l) (.int .i64 l)) v σ' := does_fillS s ht h2 h3 h4 h5 h6 (.int .i64 l) hv
        refine eg (x := Instr.makeSlice t (.int k l) (.int k' l)) ?_ rfl
        obtain ⟨cv, φ', w', h1, h2⟩ := key
        exact ⟨cv, φ', w', by simpa [Instr.makeSlice, asInt, asIntOf] using h1, h2⟩

theorem fl_plain {e : EOp} {fl : Option Nat} : (e.fl fl = e) ∨ (∀ call a σ, (e.fl fl).ev call a σ = .bad ∨ ∃ v σ', (e.fl fl).ev call a σ = .ok v σ') := by
  cases fl with
  | none => left; cases e <;> rfl
  | some j =>
    cases e <;> first | (left; rfl) | skip
    all_goals
      right
      intro call a σ
      simp only [EOp.fl, EOp.ev, afillS]
      (repeat' split) <;> simp only [afill] <;> (try split) <;> simp

/-- A world that has grown at its end. -/
theorem Sim.grow (s : Sim w0 φ σ w) (k : Nat) (os : Array Obj) : Ext φ w φ (Sort.grow (w.drewN k) os) ∧ Sim w0 φ σ (Sort.grow (w.drewN k) os) := by
  have hk : ∀ b, b < w.heap.size → (Sort.grow (w.drewN k) os).heap[b]? = w.heap[b]? := fun b hb => by
    show (w.heap ++ os)[b]? = _
    rw [Array.getElem?_append_left hb]
  have x : Ext φ w φ (Sort.grow (w.drewN k) os) := by
    refine ⟨fun _ r h => ⟨r, h, r.le_refl⟩, fun _ => Nat.le_refl _, fun b o ho => ?_⟩
    have hb : b < w.heap.size := by
      rcases Nat.lt_or_ge b w.heap.size with h' | h'
      · exact h'
      · rw [s.hi_new h'] at ho; omega
    simp only [World.cell?, hk b hb]
  refine ⟨x, ⟨s.len, fun g o r h1 h2 => ?_, s.uniq, fun b hb => ?_, ?_⟩⟩
  · have ho := s.obj g o r h1 h2
    exact ho.mono x fun b hb => ⟨hk b (owns_lt ho hb).1, rfl⟩
  · obtain ⟨c, el, fr, h1, h2⟩ := s.hiok b hb
    have hlt : b < w.heap.size := by
      rcases Nat.lt_or_ge b w.heap.size with h' | h'
      · exact h'
      · simp [Array.getElem?_eq_none h'] at h1
    exact ⟨c, el, fr, by rw [hk b hlt]; exact h1, h2⟩
  · refine s.frame.trans ⟨rfl, rfl, rfl, ?_, fun b hb => hk b (Nat.lt_of_lt_of_le hb s.frame.size)⟩
    show w.heap.size ≤ (w.heap ++ os).size
    simp

end
end Go.Am

