/-
  Effects are sound (1). Conditions: none.
-/
import Derived.Test.YthgemggkogfhaaaGreatDoorA5
import Derived.Deep.AppendSrc
namespace Go.Am
open Go Go.RowKit

section
variable {P : Program} {w0 : World} {φ : Phi} {σ : ASt} {w : World} {a : Frame} {ac : Act}

/-- What it is for an operation to come to a value and to turn the state. -/
def Does (P : Program) (w0 : World) (φ : Phi) (w : World) (x : Sem Value) (v : AVal) (σ' : ASt) : Prop :=
  ∃ cv φ' w', x.run P w = .ok cv w' ∧ VR φ' w' v cv ∧ Ext φ w φ' w' ∧ Sim w0 φ' σ' w'

theorem zeros_get (z : List AVal) : ∀ (n i : Nat), (zeros z n)[i]? = if i < n * z.length then z[i % z.length]? else none
  | 0, i => by simp [zeros]
  | n + 1, i => by
    rw [zeros, List.getElem?_append]
    split
    · rename_i h
      rw [if_pos (by rw [Nat.add_mul]; omega), Nat.mod_eq_of_lt h]
    · rename_i h
      rw [zeros_get z n]
      by_cases hl : i < (n + 1) * z.length
      · rw [if_pos hl, if_pos (by rw [Nat.add_mul] at hl; omega)]
        congr 1
        rw [Nat.mod_eq_sub_mod (a := i) (by omega)]
      · rw [if_neg hl, if_neg (by rw [Nat.add_mul] at hl; omega)]

theorem zeros_len (z : List AVal) (n : Nat) : (zeros z n).length = n * z.length := by
  induction n with
  | zero => simp [zeros]
  | succ n ih => rw [zeros, List.length_append, ih, Nat.add_mul]; omega

theorem zeros_ok {z : List AVal} {c : Array Value} (hz : VRs φ w z c.toList) (ho : ∀ v ∈ c.toList, v.oneCell' = true) (n : Nat) :
    VRs φ w (zeros z n) ((Array.range (n * c.size)).map (c[· % c.size]!)).toList ∧ ∀ v ∈ ((Array.range (n * c.size)).map (c[· % c.size]!)).toList, v.oneCell' = true := by
  have hl : z.length = c.size := by simpa using hz.1
  refine ⟨⟨by rw [zeros_len]; simp [hl], fun i x v hx hv => ?_⟩, fun v hv => ?_⟩
  · rw [zeros_get] at hx
    split at hx
    · rename_i hi
      rw [hl] at hi hx
      have hpos : 0 < c.size := by rcases Nat.eq_zero_or_pos c.size with h | h; · rw [h] at hi; simp at hi
                                   · exact h
      have hm := Nat.mod_lt i hpos
      simp [hi] at hv
      subst hv
      refine hz.2 (i % c.size) x _ hx ?_
      simp [hm]
    · cases hx
  · simp at hv
    obtain ⟨i, hi, rfl⟩ := hv
    have hpos : 0 < c.size := by rcases Nat.eq_zero_or_pos c.size with h | h; · rw [h] at hi; simp at hi
                                 · exact h
    have hm := Nat.mod_lt i hpos
    rw [getElem!_pos c _ hm]
    exact ho _ (by simp)

theorem does_newCells (s : Sim w0 φ σ w) {cs : List AVal} {c : Array Value} (el : TypeId) (hv : VRs φ w cs c.toList) (ho : ∀ v ∈ c.toList, v.oneCell' = true) :
    ∃ φ', Ext φ w φ' (w.alloc (.cells c el)) ∧ Sim w0 φ' (σ ++ [.cells el cs]) (w.alloc (.cells c el)) ∧ VR φ' (w.alloc (.cells c el)) (.ptr σ.length 0) (.pointer (some ⟨w.heap.size, 0, none⟩)) ∧ φ'.objs[σ.length]? = some (.cell w.heap.size c.size) := by
  have hl : cs.length = c.size := by simpa using hv.1
  obtain ⟨x, s'⟩ := s.newCells cs c el hl (fun i a v h1 h2 => hv.2 i a v h1 (by simpa using h2)) ho
  have hr : (φ.objs ++ [ORef.cell w.heap.size c.size])[σ.length]? = some (.cell w.heap.size c.size) := by rw [s.len]; simp
  exact ⟨_, x, s', .ptr _ _ _ _ hr, hr⟩

theorem does_alloc (s : Sim w0 φ σ w) {t : TypeId} {z : List AVal} (hz : zeroCs P t = some z) : Does P w0 φ w (Instr.alloc t true (.tuple #[])) (.ptr σ.length 0) (σ ++ [.cells t z]) := by
  obtain ⟨v, h1, h2, h3⟩ := zeroCs_ok hz φ w
  obtain ⟨φ', x, s', hv, _⟩ := does_newCells s t h2 h3
  exact ⟨_, φ', _, by simp [Instr.alloc, h1, newVar, newRow], hv, x, s'⟩

theorem does_box (s : Sim w0 φ σ w) {t : TypeId} {x v : AVal} {cx : Value} {σ' : ASt} (hx : VR φ w x cx) (h : abox t x σ = .ok v σ') : Does P w0 φ w (Instr.box t cx) v σ' := by
  unfold abox at h
  split at h
  · rename_i hi
    cases h
    obtain ⟨h1, h2⟩ := cells_ok hx hi
    obtain ⟨φ', x, s', hv, _⟩ := does_newCells s t h1 h2
    exact ⟨_, φ', _, by simp [Instr.box, newVar, newRow], hv, x, s'⟩
  · cases h

theorem does_mkmap (s : Sim w0 φ σ w) (t : TypeId) : Does P w0 φ w (Instr.makeMap t none) (.map σ.length) (σ ++ [.map []]) := by
  obtain ⟨x, s'⟩ := s.newMap
  have hr : (φ.objs ++ [ORef.map w.heap.size])[σ.length]? = some (.map w.heap.size) := by rw [s.len]; simp
  exact ⟨_, _, _, by simp [Instr.makeMap], .map _ _ hr, x, s'⟩

theorem wrap_small {n : Int} (h0 : 0 ≤ n) (h1 : n < 2 ^ 40) : IntKind.i64.wrap n = n := by
  simp only [IntKind.wrap, IntKind.bits, IntKind.signed]
  simp
  omega

theorem does_mkslice (s : Sim w0 φ σ w) {t el es : TypeId} {z : List AVal} {i : TypeInfo} {x v : AVal} {cx : Value} {σ' : ASt} (ht : P.underlying t = some (.slice el)) (hs : szOf P el = some (es + 1)) (hz : zeroCs P el = some z) (hl : z.length = es + 1) (hi : P.info? el = some i) (hb : i.bytes ≤ 256)
    (hx : VR φ w x cx) (h : amkslice el (es + 1) z x σ = .ok v σ') : Does P w0 φ w (Instr.makeSlice t cx cx) v σ' := by
  unfold amkslice at h
  split at h
  case h_2 => cases h
  rename_i k n
  cases hx
  split at h
  · rename_i hn
    cases h
    obtain ⟨zv, h1, h2, h3⟩ := zeroCs_ok hz φ w
    have hzl : zv.cells.size = es + 1 := by have := h2.1; simp at this; omega
    obtain ⟨q1, q2⟩ := zeros_ok h2 h3 n.toNat
    rw [hzl] at q1 q2
    obtain ⟨φ', x, s', hv, hr⟩ := does_newCells s el q1 q2
    have hw := wrap_small hn.1 hn.2
    have hbn : (i.bytes : Int) * n ≤ 2 ^ 48 := by
      have : (i.bytes : Int) * n ≤ 256 * n := Int.mul_le_mul_of_nonneg_right (by omega) hn.1
      omega
    have hsz' : n.toNat * (es + 1) = ((Array.range (n.toNat * (es + 1))).map (zv.cells[· % (es + 1)]!)).size := by simp
    refine ⟨.slice (some ⟨w.heap.size, 0, none⟩) n.toNat n.toNat, φ', _, ?_, ?_, x, s'⟩
    · have hc : (decide (n < 0) || decide ((i.bytes : Int) * n > 2 ^ 48) || decide (n < 0) || decide (n > n)) = false := by simp; omega
      simp only [Instr.makeSlice, Sem.run_bind, r_und ht, Result.andThen_ok, asInt, asIntOf, Sem.run_pure, r_info hi, hw, hc, Bool.false_eq_true, if_false, run_askRoom, r_size hs]
      by_cases h0 : n.toNat * (es + 1) = 0
      · simp only [h0, if_true, Sem.run_pure, Result.andThen_ok, newRow, Sem.run_bind, run_newObj]
        have e : ∀ f g : Nat → Value, (Array.range 0).map f = (Array.range 0).map g := fun f g => by simp
        rw [e _ (fun i => zv.cells[i % (es + 1)]!)]
        rfl
      · simp only [h0, if_false, Sem.run_bind, h1, Sem.run_pure, Result.andThen_ok, newRow, run_newObj, hzl]
        rfl
    · have := VR.mslice σ.length (es + 1) 0 n.toNat w.heap.size _ n.toNat hr (w := w.alloc (.cells ((Array.range (n.toNat * (es + 1))).map (zv.cells[· % (es + 1)]!)) el)) (Nat.le_refl _) (by rw [← hsz']; simp)
      simpa using this
  · cases h

end
end Go.Am

namespace Go.Am
open Go Go.RowKit

section
variable {P : Program} {w0 : World} {φ : Phi} {σ : ASt} {w : World} {a : Frame} {ac : Act}

def DoesU (P : Program) (w0 : World) (φ : Phi) (w : World) (x : Sem Unit) (σ' : ASt) : Prop :=
  ∃ φ' w', x.run P w = .ok () w' ∧ Ext φ w φ' w' ∧ Sim w0 φ' σ' w'

/-- Cells are put where a pointer leads. -/
theorem put_ok (s : Sim w0 φ σ w) {g off b sz : Nat} {vs : List AVal} {us : List Value} {v : AVal} {σ' : ASt} (hr : φ.objs[g]? = some (.cell b sz)) (h : put σ g off vs = .ok v σ') (hu : VRs φ w vs us) (ho : ∀ u ∈ us, u.oneCell' = true) :
    (storeCells ⟨b, off, none⟩ us).run P w = .ok () (wr w b off us) ∧ Ext φ w φ (wr w b off us) ∧ Sim w0 φ σ' (wr w b off us) ∧ v = .undef := by
  unfold put at h
  split at h
  · rename_i t cs hg
    split at h
    · rename_i hl
      cases h
      obtain ⟨x, s'⟩ := s.setCells hg hr hl hu ho
      obtain ⟨b', sz', e, h1, h2, c, h3, h4, h5, h6, h7⟩ := s.obj g _ _ hg hr
      cases e
      have := run_storeCells P b off us 0 w c t (0, 0) h3 (by rw [Nat.add_zero, ← hu.1]; omega) ho (fun k _ _ => by simp)
      exact ⟨this, x, s', rfl⟩
    · cases h
  · cases h

theorem does_store (s : Sim w0 φ σ w) {t : TypeId} {n : Nat} {p x v : AVal} {cp cx : Value} {σ' : ASt} (hs : szOf P t = some n) (hp : VR φ w p cp) (hx : VR φ w x cx) (h : astore n p x σ = .ok v σ') : DoesU P w0 φ w (Instr.storeAt t cp cx) σ' ∧ v = .undef := by
  unfold astore at h
  split at h
  · rename_i g off
    split at h
    · rename_i hi
      cases hp with
      | ptr _ _ b sz hr =>
        obtain ⟨h1, h2⟩ := cells_ok hx hi.1
        obtain ⟨q1, q2, q3, q4⟩ := put_ok (P := P) s hr h h1 h2
        have hsz : cx.cells.size = n := by have := h1.1; simp at this; omega
        exact ⟨⟨φ, _, by simp [Instr.storeAt, Instr.sureAddr, storeVar, r_size hs, hsz, q1], q2, q3⟩, q4⟩
    · cases h
  · cases h

theorem same_bits_pair (m : Nat) (k : IntKind) (n : Int) (s : ByteArray) : Instr.sameBits (m + 1 + 1 + 1) (.agg #[.iface 3 (.int k n), .iface 9 (.string s)]) (.agg #[.iface 3 (.int k n), .iface 9 (.string s)]) = true := by
  have : (s == s) = true := by
    show (s.data == s.data) = true
    simp
  simp [Instr.sameBits, this]

theorem same_bits {c : KC} {x y : AVal} {cx cy : Value} (hx : VR φ w x cx) (hy : VR φ w y cy) (h : keyEq c x y = some true) : Instr.sameBits 10000 cy cx = true := by
  cases c
  · cases hx <;> cases hy <;> simp [keyEq] at h
    obtain ⟨rfl, rfl⟩ := h; simp [Instr.sameBits]
  · cases hx <;> cases hy <;> simp [keyEq] at h
    subst h; simp only [Instr.sameBits]; rw [bytes_beq]; simp
  · cases hx <;> cases hy <;> simp [keyEq] at h
    subst h; simp [Instr.sameBits]
  · obtain ⟨k, n, s, k', n', s', rfl, rfl, rfl, hb⟩ := pair_inv h
    have hb := hb.symm
    simp only [Bool.and_eq_true, decide_eq_true_eq] at hb
    obtain ⟨rfl, rfl⟩ := hb
    rw [pair_vr hx, pair_vr hy]
    exact same_bits_pair 9997 _ _ _

theorem put_key {c : KC} {d : TypeDesc} {kt : TypeId} {k v : AVal} {ck cv : Value} (hd : KeyKind P c d) (ht : P.underlying kt = some d) (hk : VR φ w k ck) (hv : VR φ w v cv) (cl : Nat) : ∀ (es es' : List (AVal × AVal)) (ce : List MapEntry) (i : Nat), EntsOk φ w es ce → putBack c k v es = some es' →
    (∃ j u e, FindRun P w c d kt ck ce i (some (i + j, u)) ∧ ce[j]? = some e ∧ Instr.sameBits 10000 e.key ck = true ∧ EntsOk φ w es' (ce.modify j fun e => { e with key := ck, val := cv })) ∨
    (FindRun P w c d kt ck ce i none ∧ EntsOk φ w es' (ce ++ [⟨ck, cv, cl⟩]))
  | [], es', [], i, _, h => by
    simp [putBack] at h; subst h
    refine .inr ⟨find_nil i, rfl, fun i p q hp hq => ?_⟩
    cases i <;> simp at hp hq
    subst hp hq; exact ⟨hk, hv⟩
  | [], _, _ :: _, _, h, _ => by have := h.1; simp at this
  | _ :: _, _, [], _, h, _ => by have := h.1; simp at this
  | p :: es, es', q :: ce, i, he, h => by
    obtain ⟨⟨h1, h2⟩, h3⟩ := he.tail
    simp only [putBack] at h
    split at h
    · rename_i hq
      cases h
      refine .inl ⟨0, q.val, q, find_hit hd ht hk h1 hq ce i, rfl, same_bits hk h1 hq, ?_⟩
      refine ⟨by have := he.1; simpa using this, fun i p q' hp hq' => ?_⟩
      cases i with
      | zero => simp at hp hq'; subst hp hq'; exact ⟨hk, hv⟩
      | succ i => simp at hp hq'; exact h3.2 i p q' hp hq'
    · rename_i hq
      simp at h
      obtain ⟨es2, h5, rfl⟩ := h
      have ext : ∀ (es3 : List (AVal × AVal)) (ce3 : List MapEntry), EntsOk φ w es3 ce3 → EntsOk φ w (p :: es3) (q :: ce3) := by
        intro es3 ce3 h
        refine ⟨by simp [h.1], fun i p' q' hp hq' => ?_⟩
        cases i with
        | zero => simp at hp hq'; subst hp hq'; exact ⟨h1, h2⟩
        | succ i => simp at hp hq'; exact h.2 i p' q' hp hq'
      rcases put_key hd ht hk hv cl es es2 ce (i + 1) h3 h5 with ⟨j, u, e, k1, k2, k3, k4⟩ | ⟨k1, k2⟩
      · exact .inl ⟨j + 1, u, e, (by have := find_miss hd ht hk h1 hq k1; rwa [show i + 1 + j = i + (j + 1) by omega] at this), by simpa using k2, k3, by simpa using ext _ _ k4⟩
      · exact .inr ⟨find_miss hd ht hk h1 hq k1, ext _ _ k2⟩
    · cases h

theorem run_setMap {b : Nat} {ce : Array MapEntry} {cl : Nat} (h : w.heap[b]? = some (.map ce cl)) (o : Obj) : (setObj b o).run P w = .ok () { w with heap := w.heap.setIfInBounds b o } := by
  simp [setObj, Sem.run, h]

theorem does_mapupd (s : Sim w0 φ σ w) {c : KC} {t kt el : TypeId} {m k x v : AVal} {cm ck cx : Value} {σ' : ASt} (ht : P.underlying t = some (.map kt el)) (hkc : keyC P kt = some c) (hm : VR φ w m cm) (hk : VR φ w k ck) (hx : VR φ w x cx)
    (h : amapupd c m k x σ = .ok v σ') : DoesU P w0 φ w (Instr.mapUpdate t cm ck cx) σ' ∧ v = .undef := by
  obtain ⟨d, hd1, hd2⟩ := keyC_ok hkc
  unfold amapupd at h
  split at h
  · cases h
  · rename_i hkok
    split at h
    · rename_i g
      split at h
      · rename_i es hes
        split at h
        · rename_i es2 hp
          cases h
          obtain ⟨b, ce, cl, es0, h1, h2, hpe, hde, h3, h4⟩ := s.ref_cell hes
          obtain ⟨es', hp, hp2, hd2'⟩ := put_perm (by simpa using hkok) hpe hde hp
          cases hm with
          | map _ b' hb =>
            rw [hb] at h1; cases h1
            have he : EntsOk φ w es0 ce.toList := ⟨by simpa using h3, fun i p q hp hq => h4 i p q hp (by simpa using hq)⟩
            have hck := check_key hd2 hd1 hk (by simpa using hkok) false
            have hpre : ∀ r, FindRun P w c d kt ck ce.toList 0 r → (Instr.findKey kt ck ce.toList).run P w = .ok r w := fun r hr => find_out hd2 hd1 hr
            refine ⟨?_, rfl⟩
            rcases put_key hd2 hd1 hk hx cl es0 es' ce.toList 0 he hp with ⟨j, u, e, k1, k2, k3, k4⟩ | ⟨k1, k2⟩
            · rw [Nat.zero_add] at k1
              have hej : ce[j]? = some e := by simpa using k2
              have hok : EntsOk φ w es' (ce.modify j fun e => { e with key := ck, val := cx }).toList := by simpa using k4
              obtain ⟨x', s'⟩ := s.setMap (ce := ce.modify j fun e => { e with key := ck, val := cx }) (clock := cl) hes hb hp2 hd2' (by simpa using hok.1) (fun i p q hp hq => hok.2 i p q hp (by rw [Array.getElem?_toList]; exact hq))
              refine ⟨φ, _, ?_, x', s'⟩
              have hkk : (Instr.keyThatStays (((ce[j]?).map (·.key)).getD ck) ck).run P w = .ok ck w := by simp [Instr.keyThatStays, hej, k3]
              simp only [Instr.mapUpdate, Sem.run_bind, r_und ht, Result.andThen_ok]
              simp only [← Sem.run_bind]
              rw [run_bind_getObj h2]
              simp only [Sem.run_bind, hck, Result.andThen_ok, hpre _ k1, hkk, run_setMap h2]
            · have hok : EntsOk φ w es' (ce.push ⟨ck, cx, cl⟩).toList := by simpa using k2
              obtain ⟨x', s'⟩ := s.setMap (ce := ce.push ⟨ck, cx, cl⟩) (clock := cl + 1) hes hb hp2 hd2' (by simpa using hok.1) (fun i p q hp hq => hok.2 i p q hp (by rw [Array.getElem?_toList]; exact hq))
              refine ⟨φ, _, ?_, x', s'⟩
              simp only [Instr.mapUpdate, Sem.run_bind, r_und ht, Result.andThen_ok]
              simp only [← Sem.run_bind]
              rw [run_bind_getObj h2]
              simp only [Sem.run_bind, hck, Result.andThen_ok, hpre _ k1, run_setMap h2]
        · cases h
      · cases h
    · cases h

end
end Go.Am

namespace Go.Am
open Go Go.RowKit

section
variable {P : Program} {w0 : World} {φ : Phi} {σ : ASt} {w : World} {a : Frame} {ac : Act}

abbrev flat (l : List AVal) : List AVal := l.flatMap AVal.cells

theorem flat_len {es : Nat} : ∀ {l : List AVal}, (∀ e ∈ l, e.cells.length = es) → (flat l).length = l.length * es
  | [], _ => by simp [flat]
  | e :: l, h => by
    have h1 := h e (List.mem_cons_self ..)
    have h2 := flat_len (l := l) (fun e he => h e (List.mem_cons_of_mem _ he))
    simp only [flat, List.flatMap_cons, List.length_append, List.length_cons, h1] at h2 ⊢
    rw [h2, Nat.add_mul]; omega

theorem flat_get {es : Nat} : ∀ {l : List AVal}, (∀ e ∈ l, e.cells.length = es) → ∀ (i j : Nat), j < es → (flat l)[i * es + j]? = (l[i]?).bind fun e => e.cells[j]?
  | [], _, i, j, _ => by simp [flat]
  | e :: l, h, i, j, hj => by
    have h1 := h e (List.mem_cons_self ..)
    have h2 := flat_get (l := l) (fun e he => h e (List.mem_cons_of_mem _ he))
    simp only [flat, List.flatMap_cons] at h2 ⊢
    cases i with
    | zero => rw [Nat.zero_mul, Nat.zero_add, List.getElem?_append_left (by omega)]; simp
    | succ i =>
      rw [Nat.add_mul, Nat.one_mul, List.getElem?_append_right (by omega), h1, show i * es + es + j - es = i * es + j by omega, h2 i j hj]
      simp

/-- A list's cells, one behind the other. -/
theorem list_inv {tok : Option Nat} {es : Nat} {l : List AVal} {cx : Value} (h : VR φ w (.list tok es l) cx) (hes0 : 0 < es) :
    ∃ b o cap c, cx = .slice (some ⟨b, o, none⟩) l.length cap ∧ (∀ e ∈ l, e.cells.length = es) ∧ VRs φ w (flat l) c ∧ (∀ (q : Nat) u, c[q]? = some u → w.cell? ⟨b, o + q, none⟩ = some u) ∧ (∀ u ∈ c, u.oneCell' = true) ∧
      (0 < l.length * es → o + l.length * es ≤ φ.hi b) ∧ l.length ≤ cap ∧ (∀ k, tok = some k → ∃ n b' o' c' el, φ.objs[k]? = some (.tok n b' o' es c' el) ∧ l.length ≤ n ∧ (l.length = n → b' = b ∧ o' = o ∧ c' = cap)) := by
  cases h with
  | list _ _ _ b o cap f hes hc ho hv hh hcap ht =>
    refine ⟨b, o, cap, (List.range (l.length * es)).map fun q => f (q / es) (q % es), rfl, hes, ⟨by rw [flat_len hes]; simp, fun q x v hx hv' => ?_⟩, fun q u hu => ?_, fun u hu => ?_, hh, hcap, ht⟩
    · have hq : q < l.length * es := by
        rcases Nat.lt_or_ge q (l.length * es) with h | h
        · exact h
        · rw [List.getElem?_eq_none (by rw [flat_len hes]; exact h)] at hx; cases hx
      simp [hq] at hv'
      subst hv'
      have hm := Nat.mod_lt q hes0
      have e : q = q / es * es + q % es := by rw [Nat.mul_comm]; exact (Nat.div_add_mod q es).symm
      rw [e, flat_get hes _ _ hm] at hx
      cases hl : l[q / es]? with
      | none => simp [hl] at hx
      | some y =>
        simp [hl] at hx
        exact hv _ y hl _ x hx
    · by_cases hq : q < l.length * es
      · simp [hq] at hu
        subst hu
        have hm := Nat.mod_lt q hes0
        have e : q / es * es + q % es = q := by rw [Nat.mul_comm]; exact Nat.div_add_mod q es
        have := hc (q / es) ((Nat.div_lt_iff_lt_mul hes0).2 hq) (q % es) hm
        rw [Nat.add_assoc, e] at this
        exact this
      · rw [List.getElem?_eq_none (by simp; omega)] at hu; cases hu
    · obtain ⟨q, hq, rfl⟩ := List.mem_map.1 hu
      have hq := List.mem_range.1 hq
      exact ho _ ((Nat.div_lt_iff_lt_mul hes0).2 hq) _ (Nat.mod_lt q hes0)

theorem list_mk {tok : Option Nat} {es : Nat} {l : List AVal} {b o cap : Nat} {c : List Value} (hes : ∀ e ∈ l, e.cells.length = es) (hv : VRs φ w (flat l) c) (hc : ∀ (q : Nat) u, c[q]? = some u → w.cell? ⟨b, o + q, none⟩ = some u) (ho : ∀ u ∈ c, u.oneCell' = true)
    (hh : 0 < l.length * es → o + l.length * es ≤ φ.hi b) (hcap : l.length ≤ cap) (ht : ∀ k, tok = some k → ∃ n b' o' c' el, φ.objs[k]? = some (.tok n b' o' es c' el) ∧ l.length ≤ n ∧ (l.length = n → b' = b ∧ o' = o ∧ c' = cap)) :
    VR φ w (.list tok es l) (.slice (some ⟨b, o, none⟩) l.length cap) := by
  have hl : c.length = l.length * es := by rw [← hv.1, flat_len hes]
  have hlt : ∀ i, i < l.length → ∀ j, j < es → i * es + j < c.length := by
    intro i hi j hj
    have : (i + 1) * es ≤ l.length * es := Nat.mul_le_mul_right es hi
    rw [Nat.add_mul] at this
    omega
  refine .list tok es l b o cap (fun i j => c.getD (i * es + j) undef) hes (fun i hi j hj => ?_) (fun i hi j hj => ?_) (fun i e he j x hx => ?_) hh hcap ht
  · have h := hlt i hi j hj
    rw [Nat.add_assoc]
    exact hc _ _ (by simp [List.getD, h])
  · have h := hlt i hi j hj
    simp only [List.getD, List.getElem?_eq_getElem h, Option.getD_some]
    exact ho _ (List.getElem_mem _)
  · have hi : i < l.length := by
      rcases Nat.lt_or_ge i l.length with h | h
      · exact h
      · rw [List.getElem?_eq_none h] at he; cases he
    have hj : j < es := by
      rcases Nat.lt_or_ge j es with h | h
      · exact h
      · rw [List.getElem?_eq_none (by rw [hes e (List.mem_of_getElem? he)]; exact h)] at hx; cases hx
    have h := hlt i hi j hj
    refine hv.2 (i * es + j) x _ ?_ (by simp [List.getD, h])
    rw [flat_get hes _ _ hj, he]; exact hx

/-- A slice's elements, or a text's, loaded. -/
theorem first_cells {es : Nat} {x : AVal} {cx : Value} {xs : List AVal} (hes0 : 0 < es) (hx : VR φ w x cx) (h : elems es x = some xs) :
    ∃ c : List Value, (∀ e ∈ xs, e.cells.length = es) ∧ VRs φ w (flat xs) c ∧ (∀ u ∈ c, u.oneCell' = true) ∧ (Builtin.lenOf cx).run P w = .ok xs.length w ∧ (∀ m, m ≤ xs.length → (Builtin.firstCells es m cx).run P w = .ok (c.take (m * es)).toArray w) := by
  unfold elems at h
  split at h
  · cases h
    cases hx
    exact ⟨[], by simp, .nil, by simp, by simp [Builtin.lenOf], fun m hm => by simp [Builtin.firstCells]⟩
  · rename_i tok es' l
    split at h
    · rename_i e
      cases h; subst e
      obtain ⟨b, o, cap, c, rfl, h1, h2, h3, h4, h5, h6, h7⟩ := list_inv hx hes0
      refine ⟨c, h1, h2, h4, by simp [Builtin.lenOf], fun m hm => ?_⟩
      have hl : c.length = xs.length * es := by rw [← h2.1, flat_len h1]
      have hmm : m * es ≤ xs.length * es := Nat.mul_le_mul_right es hm
      simp only [Builtin.firstCells]
      have := run_loadCells_list (P := P) w ⟨b, o, none⟩ (c.take (m * es)) (fun j v hj => by
        rw [add_none]
        rw [List.getElem?_take] at hj
        split at hj
        · exact h3 j v hj
        · cases hj)
      rwa [List.length_take, Nat.min_eq_left (by omega)] at this
    · cases h
  · rename_i s
    split at h
    · rename_i e
      cases h; subst e
      cases hx
      refine ⟨s.map fun b => .int .u8 b.toNat, fun e he => ?_, ?_, fun u hu => ?_, by simp [Builtin.lenOf, ByteArray.size], fun m hm => ?_⟩
      · obtain ⟨b, _, rfl⟩ := List.mem_map.1 he; rfl
      · have : flat (s.map fun b => AVal.int .u8 b.toNat) = s.map fun b => AVal.int .u8 b.toNat := by
          induction s with
          | nil => rfl
          | cons b s ih => simp only [flat, List.map_cons, List.flatMap_cons] at ih ⊢; rw [ih]; rfl
        rw [this]
        refine ⟨by simp, fun i x v hx hv => ?_⟩
        simp at hx hv
        obtain ⟨y, hy, rfl⟩ := hx
        obtain ⟨z, hz, rfl⟩ := hv
        rw [hy] at hz; cases hz
        exact .int _ _
      · obtain ⟨b, _, rfl⟩ := List.mem_map.1 hu; rfl
      · simp only [Builtin.firstCells, Sem.run_pure]
        congr 1
        apply Array.ext'
        simp [ByteArray.data_extract, List.map_take]
    · cases h
  · cases h

end
end Go.Am

namespace Go.Am
open Go Go.RowKit

section
variable {P : Program} {w0 : World} {φ : Phi} {σ : ASt} {w : World} {a : Frame} {ac : Act}

/-- What may be appended to moves into a new block. -/
theorem Sim.retok (s : Sim w0 φ σ w) {g n b o es c n' c' : Nat} {el : TypeId} (hg : σ[g]? = some (.tok n el)) (hr : φ.objs[g]? = some (.tok n b o es c el)) (hn : n < n') (hc : n' ≤ c') (hes : 0 < es) (cs : Array Value) (hsz : c' * es ≤ cs.size) :
    Ext φ w ⟨φ.objs.set g (.tok n' w.heap.size 0 es c' el), fun k => if k = w.heap.size then n' * es else φ.hi k⟩ (w.alloc (.cells cs el)) ∧
      Sim w0 ⟨φ.objs.set g (.tok n' w.heap.size 0 es c' el), fun k => if k = w.heap.size then n' * es else φ.hi k⟩ (σ.set g (.tok n' el)) (w.alloc (.cells cs el)) := by
  have hgl : g < φ.objs.length := by
    rcases Nat.lt_or_ge g φ.objs.length with h' | h'
    · exact h'
    · simp [List.getElem?_eq_none h'] at hr
  have x : Ext φ w ⟨φ.objs.set g (.tok n' w.heap.size 0 es c' el), fun k => if k = w.heap.size then n' * es else φ.hi k⟩ (w.alloc (.cells cs el)) := by
    refine ⟨fun k q h => ?_, fun k => ?_, fun k o' ho => ?_⟩
    · by_cases hk : k = g
      · subst hk; rw [hr] at h; cases h
        exact ⟨.tok n' w.heap.size 0 es c' el, by simp [hgl], by simp [ORef.le, hn]⟩
      · exact ⟨q, by simp [List.getElem?_set_ne (Ne.symm hk), h], q.le_refl⟩
    · by_cases hk : k = w.heap.size
      · subst hk; rw [s.hi_new (Nat.le_refl _)]; exact Nat.zero_le _
      · simp [hk]
    · have hb : k < w.heap.size := by
        rcases Nat.lt_or_ge k w.heap.size with h' | h'
        · exact h'
        · rw [s.hi_new h'] at ho; omega
      simp only [World.cell?, heap_alloc_old hb]
  refine ⟨x, ⟨by simp [s.len], ?_, ?_, ?_, s.frame.alloc (s.frame.size) _⟩⟩
  · intro k q t h1 h2
    by_cases hk : k = g
    · subst hk
      simp [s.len, hgl] at h1 h2
      subst h1 h2
      exact ⟨w.heap.size, 0, es, c', rfl, hc, hes, s.frame.size, by simp, cs, (0, 0), heap_alloc_new _ _, by omega, by simp⟩
    · rw [List.getElem?_set_ne (Ne.symm hk)] at h1 h2
      have ho := s.obj k q t h1 h2
      refine ho.mono x fun b' hb' => ?_
      have := (owns_lt ho hb').1
      exact ⟨heap_alloc_old this, by simp [Nat.ne_of_lt this]⟩
  · intro k k' q q' t t' b' h1 h2 h3 h4 h5 h6
    have old : ∀ k q t, (σ.set g (.tok n' el))[k]? = some q → (φ.objs.set g (.tok n' w.heap.size 0 es c' el))[k]? = some t → owns q t = some b' → (k = g ∧ b' = w.heap.size) ∨ (k ≠ g ∧ σ[k]? = some q ∧ φ.objs[k]? = some t ∧ b' < w.heap.size) := by
      intro k q t h1 h2 h5
      by_cases hk : k = g
      · subst hk
        simp [s.len, hgl] at h1 h2
        subst h1 h2
        simp only [owns, Option.some.injEq] at h5
        exact .inl ⟨rfl, h5.symm⟩
      · rw [List.getElem?_set_ne (Ne.symm hk)] at h1 h2
        exact .inr ⟨hk, h1, h2, (owns_lt (s.obj k q t h1 h2) h5).1⟩
    rcases old k q t h1 h2 h5 with ⟨a1, a2⟩ | ⟨a1, a2, a3, a4⟩ <;> rcases old k' q' t' h3 h4 h6 with ⟨b1, b2⟩ | ⟨b1, b2, b3, b4⟩
    · omega
    · omega
    · omega
    · exact s.uniq k k' q q' t t' b' a2 a3 b2 b3 h5 h6
  · intro k hk
    by_cases hkb : k = w.heap.size
    · subst hkb
      refine ⟨cs, el, (0, 0), heap_alloc_new _ _, ?_⟩
      simp only [if_true]
      exact Nat.le_trans (Nat.mul_le_mul_right es hc) hsz
    · have hk' : 0 < φ.hi k := by simpa [hkb] using hk
      obtain ⟨c2, el2, fr, h1, h2⟩ := s.hiok k hk'
      have hlt : k < w.heap.size := by
        rcases Nat.lt_or_ge k w.heap.size with h' | h'
        · exact h'
        · simp [Array.getElem?_eq_none h'] at h1
      exact ⟨c2, el2, fr, by rw [heap_alloc_old hlt]; exact h1, by simpa [hkb] using h2⟩

/-- A new block that begins with cells reads as these. -/
theorem cells_new {c d : List Value} {el : TypeId} {q : Nat} {u : Value} (h : c[q]? = some u) : (w.alloc (.cells (c ++ d).toArray el)).cell? ⟨w.heap.size, 0 + q, none⟩ = some u := by
  have hq : q < c.length := by
    rcases Nat.lt_or_ge q c.length with h' | h'
    · exact h'
    · rw [List.getElem?_eq_none h'] at h; cases h
  rw [cell_of_block (heap_alloc_new _ _)]
  simp [List.getElem?_append_left hq, h]

theorem tok_one {k : Nat} {es : Nat} {l : List AVal} {b o cap c : Nat} {n : Nat} {el : TypeId} (hr : φ.objs[k]? = some (.tok n b o es c el)) (hl : l.length = n) (hcap : c = cap) : ∀ k', some k = some k' → ∃ n b' o' c' el, φ.objs[k']? = some (.tok n b' o' es c' el) ∧ l.length ≤ n ∧ (l.length = n → b' = b ∧ o' = o ∧ c' = cap) := by
  intro k' e
  cases e
  exact ⟨n, b, o, c, el, hr, by omega, fun _ => ⟨rfl, rfl, hcap⟩⟩

theorem setCells_wr (b : Nat) : ∀ (vs : List Value) (o : Nat) (w : World), w.setCells b o vs = wr w b o vs
  | [], _, _ => rfl
  | v :: vs, o, w => by rw [wr, ← setCells_wr b vs (o + 1)]; rfl

theorem src_of {es : Nat} {xt : TypeId} {d : TypeDesc} {x : AVal} {cx : Value} {xs : List AVal} (hes0 : 0 < es) (hxt : P.underlying xt = some d) (hd : (∃ e, d = .slice e) ∨ d = .string) (hx : VR φ w x cx) (h : elems es x = some xs) :
    ∃ c : List Value, (∀ e ∈ xs, e.cells.length = es) ∧ VRs φ w (flat xs) c ∧ (∀ u ∈ c, u.oneCell' = true) ∧ Src P es xt cx xs.length c w := by
  obtain ⟨c, h1, h2, h3, h4, h5⟩ := first_cells (P := P) hes0 hx h
  have hl : c.length = xs.length * es := by rw [← h2.1, flat_len h1]
  have hf := h5 xs.length (Nat.le_refl _)
  rw [List.take_of_length_le (by omega)] at hf
  refine ⟨c, h1, h2, h3, ?_, ?_, hf, ?_, hl, h3⟩
  · rcases hd with ⟨e, rfl⟩ | rfl
    · exact .inl ⟨e, hxt⟩
    · exact .inr hxt
  · intro w'
    unfold elems at h
    split at h
    · cases h; cases hx; rfl
    · split at h
      · cases h; cases hx; rfl
      · cases h
    · split at h
      · cases h; cases hx; simp [Builtin.lenOf, ByteArray.size]
      · cases h
    · cases h
  · -- the same cells behind a draw
    have e : (Builtin.firstCells es xs.length cx).run P w.drew = (match (Builtin.firstCells es xs.length cx).run P w with | .ok a _ => .ok a w.drew | .halt h _ => .halt h w.drew) := by
      unfold elems at h
      split at h
      · cases h; cases hx; simp [Builtin.firstCells]
      · rename_i tok es' l
        split at h
        · rename_i e
          cases h; subst e
          obtain ⟨b, o, cap, c2, rfl, k1, k2, k3, k4, k5, k6, k7⟩ := list_inv hx hes0
          simp only [Builtin.firstCells]
          have r1 := run_loadCells_list (P := P) w ⟨b, o, none⟩ c2 (fun j v hj => by rw [add_none]; exact k3 j v hj)
          have r2 := run_loadCells_list (P := P) w.drew ⟨b, o, none⟩ c2 (fun j v hj => by rw [add_none]; exact k3 j v hj)
          have hl2 : c2.length = xs.length * es := by rw [← k2.1, flat_len k1]
          rw [hl2] at r1 r2
          rw [r1, r2]
        · cases h
      · split at h
        · cases h; cases hx; simp [Builtin.firstCells]
        · cases h
      · cases h
    rw [e, hf]

theorem append_zero_src {st xt T el es : Nat} {i : TypeInfo} {cy : Value} {base : Option Addr} {sLen sCap : Nat} (ht : P.underlying st = some (.slice el)) (hi : P.info? el = some i) (hsz : i.size = es) (hs : Src P es xt cy 0 [] w) (hc : sLen ≤ sCap) :
    (Builtin.append_ #[st, xt] T #[.slice base sLen sCap, cy]).run P w = .ok (.slice base sLen sCap) w := by
  have h1 := hs.len w
  have h2 := hs.cells
  rcases hs.kind with ⟨e', hk⟩ | hk <;> cases base <;> simp [Builtin.append_, run_underlying ht, run_underlying hk, sizeOf, typeInfo, hi, hsz, h1, hc, h2, storeCells]

theorem does_append (s : Sim w0 φ σ w) {st xt T el es : Nat} {i : TypeInfo} {z : List AVal} {d : TypeDesc} {x y v : AVal} {cx cy : Value} {σ' : ASt} (ht : P.underlying st = some (.slice el)) (hxt : P.underlying xt = some d) (hd : (∃ e, d = .slice e) ∨ d = .string) (hs : szOf P el = some (es + 1))
    (hz : zeroCs P el = some z) (hzl : z.length = es + 1) (hi : P.info? el = some i) (hb : 0 < i.bytes) (hx : VR φ w x cx) (hy : VR φ w y cy) (h : aappend el (es + 1) i.bytes x y σ = .ok v σ') : Does P w0 φ w (Builtin.append_ #[st, xt] T #[cx, cy]) v σ' := by
  have hsz : i.size = es + 1 := by unfold szOf at hs; rw [hi] at hs; simpa using hs
  unfold aappend at h
  split at h
  · cases h
  · rename_i xs hxs
    obtain ⟨c, hes, hc, hone, hsrc⟩ := src_of (P := P) (Nat.succ_pos es) hxt hd hy hxs
    have hcl := hsrc.newsLen
    obtain ⟨zv, hz1, hz2, hz3⟩ := zeroCs_ok hz φ w
    have hzz : ∃ zz, i.zero = some zz ∧ zz = zv := by
      unfold zeroValue at hz1
      simp only [Sem.run_bind, r_info hi, Result.andThen_ok] at hz1
      cases hzi : i.zero with
      | none => simp [hzi] at hz1
      | some zz => simp [hzi] at hz1; exact ⟨zz, rfl, hz1⟩
    obtain ⟨zz, hz4, rfl⟩ := hzz
    have hzs : zz.cells.size = es + 1 := by have := hz2.1; simp at this; omega
    split at h
    · rename_i hem
      have hx0 : xs = [] := by simpa using hem
      subst hx0
      have hc0 : c = [] := by cases c with | nil => rfl | cons _ _ => simp at hcl
      subst hc0
      split at h
      · cases h
        cases hx
        exact ⟨.slice none 0 0, φ, w, append_zero_src ht hi hsz hsrc (Nat.le_refl _), .nilslice, Ext.refl φ w, s⟩
      · rename_i tok es' l
        split at h <;> cases h
        rename_i e
        subst e
        obtain ⟨b, o, cap, c2, rfl, _, _, _, _, _, hcap, _⟩ := list_inv hx (Nat.succ_pos es)
        exact ⟨_, φ, w, append_zero_src ht hi hsz hsrc hcap, hx, Ext.refl φ w, s⟩
      · cases h
    · rename_i hem
      have hm : 0 < xs.length := by cases xs with | nil => simp at hem | cons _ _ => simp
      obtain ⟨sd, xd⟩ := s.drew
      have hzc : ∀ (need cap : Nat), (need * (es + 1)) + (Builtin.zeroCells zz.cells (cap - need)).size = (need + (cap - need)) * (es + 1) := by
        intro need cap
        rw [size_zeroCells, hzs, Nat.add_mul]
      split at h
      · -- nil
        split at h
        · rename_i hbnd
          cases h
          cases hx
          have hn63 : ((0 + xs.length : Nat) : Int) ≤ 9223372036854775807 := by
            have : xs.length ≤ xs.length * i.bytes := Nat.le_mul_of_pos_right _ hb
            omega
          have hrun := run_append_grow_src w st xt T el i zz ht hi hz4 none 0 0 [] (by simp [Builtin.firstCells]) cy xs.length c (hsz ▸ hsrc) (by omega) hn63 (by
            have := nextslicecap_le (need := 0 + xs.length) (old := 0) (by omega)
            have h2 : Builtin.nextslicecap (0 + xs.length) 0 * i.bytes ≤ 2 * (0 + xs.length) * i.bytes := Nat.mul_le_mul_right _ this
            rw [Nat.mul_assoc] at h2
            simp only [Nat.zero_add] at h2 ⊢
            omega)
          simp only [Nat.zero_add, List.nil_append] at hrun
          have hge := grownCap_ge w xs.length 0 el
          generalize hcp : grownCap w xs.length 0 el = cap at hrun hge
          have hcells : (c.toArray ++ Builtin.zeroCells zz.cells (cap - xs.length)) = (c ++ (Builtin.zeroCells zz.cells (cap - xs.length)).toList).toArray := by apply Array.ext'; simp
          rw [hcells] at hrun
          obtain ⟨x1, s1⟩ := sd.newTok xs.length (es + 1) cap (Nat.succ_pos es) hge (c ++ (Builtin.zeroCells zz.cells (cap - xs.length)).toList).toArray el (by
            simp only [List.size_toArray, List.length_append, Array.length_toList, hcl, hzc]
            exact Nat.mul_le_mul_right _ (by omega))
          refine ⟨_, _, _, hrun, ?_, xd.trans x1, s1⟩
          have hr : (φ.objs ++ [ORef.tok xs.length w.drew.heap.size 0 (es + 1) cap el])[σ.length]? = some (.tok xs.length w.drew.heap.size 0 (es + 1) cap el) := by rw [s.len]; simp
          refine list_mk hes (hc.mono (xd.trans x1)) (fun q u hq => cells_new hq) hone (fun _ => by simp) hge (tok_one hr rfl rfl)
        · cases h
      · -- a list that may be appended to
        rename_i k es' l
        split at h
        · rename_i n el' hk
          split at h
          · rename_i hcond
            obtain ⟨rfl, rfl, rfl, hbnd⟩ := hcond
            cases h
            obtain ⟨b, o, cap, c2, rfl, q1, q2, q3, q4, q5, q6, q7⟩ := list_inv hx (Nat.succ_pos es)
            obtain ⟨n', b', o', c', el2, hr, hle, heq⟩ := q7 k rfl
            obtain ⟨r2, hr2, hok⟩ := s.ref hk
            rw [hr] at hr2; cases hr2
            obtain ⟨b'', o'', es'', c'', e, hcn, hown⟩ := hok
            cases e
            have hhi := hown.2.2.1
            obtain ⟨rfl, rfl, rfl⟩ := heq rfl
            have hc2l : c2.length = l.length * (es + 1) := by rw [← q2.1, flat_len q1]
            have hflat : flat (l ++ xs) = flat l ++ flat xs := by simp [flat]
            have hes2 : ∀ e ∈ l ++ xs, e.cells.length = es + 1 := fun e he => by
              rcases List.mem_append.1 he with h | h
              · exact q1 e h
              · exact hes e h
            have hone2 : ∀ u ∈ c2 ++ c, u.oneCell' = true := fun u hu => by
              rcases List.mem_append.1 hu with h | h
              · exact q4 u h
              · exact hone u h
            by_cases hroom : l.length + xs.length ≤ c'
            · obtain ⟨x1, s1, ce, fr, p1, p2, p3, p4⟩ := s.appendIn (us := c) hk hr hm hroom hcl
              have hrun := run_append_room_src (P := P) w st xt T el i ht hi b' o' l.length c' cy xs.length c (hsz ▸ hsrc) hroom (fun j hj => by
                rw [hsz, cell_of_block p1]
                simp; omega) (fun j hj => by
                rw [hsz, frozen_of_block p1]
                simp; omega)
              rw [hsz, setCells_wr] at hrun
              refine ⟨_, _, _, hrun, ?_, x1, s1⟩
              have hle' : (l ++ xs).length ≤ c' := by simpa using hroom
              rw [← List.length_append] at x1 s1 ⊢
              refine list_mk hes2 (hflat ▸ (q2.mono x1).append (hc.mono x1)) (fun q u hq => ?_) hone2 (fun _ => ?_) hle' (tok_one (c := c') (el := el) ?_ rfl rfl)
              · rw [List.getElem?_append] at hq
                split at hq
                · rename_i hlt
                  have := q5 (by omega)
                  rw [x1.same b' (o' + q) (by omega)]
                  exact q3 q u hq
                · rename_i hlt
                  have hlt2 : q - c2.length < c.length := by
                    rcases Nat.lt_or_ge (q - c2.length) c.length with h' | h'
                    · exact h'
                    · rw [List.getElem?_eq_none h'] at hq; cases hq
                  have := p4 (q - c2.length) hlt2
                  rw [show o' + q = o' + l.length * (es + 1) + (q - c2.length) by omega, this, ← hq, List.getElem?_eq_getElem hlt2]
              · simp
              · have hkl : k < φ.objs.length := by
                  rcases Nat.lt_or_ge k φ.objs.length with h' | h'
                  · exact h'
                  · rw [List.getElem?_eq_none h'] at hr; cases hr
                simp [hkl]
            · have hroom : c' < l.length + xs.length := by omega
              have hn63 : ((l.length + xs.length : Nat) : Int) ≤ 9223372036854775807 := by
                have : l.length + xs.length ≤ (l.length + xs.length) * i.bytes := Nat.le_mul_of_pos_right _ hb
                omega
              have hold : (Builtin.firstCells i.size l.length (.slice (some ⟨b', o', none⟩) l.length c')).run P w.drew = .ok c2.toArray w.drew := by
                rw [hsz]
                simp only [Builtin.firstCells]
                have r := run_loadCells_list (P := P) w.drew ⟨b', o', none⟩ c2 (fun j v hj => by rw [add_none]; exact q3 j v hj)
                rwa [hc2l] at r
              have hrun := run_append_grow_src w st xt T el i zz ht hi hz4 (some ⟨b', o', none⟩) l.length c' c2 hold cy xs.length c (hsz ▸ hsrc) hroom hn63 (by
                have := nextslicecap_le hroom
                have h2 : Builtin.nextslicecap (l.length + xs.length) c' * i.bytes ≤ 2 * (l.length + xs.length) * i.bytes := Nat.mul_le_mul_right _ this
                rw [Nat.mul_assoc] at h2
                omega)
              have hge := grownCap_ge w (l.length + xs.length) c' el
              generalize hcp : grownCap w (l.length + xs.length) c' el = cap at hrun hge
              have hcells : ((c2 ++ c).toArray ++ Builtin.zeroCells zz.cells (cap - (l.length + xs.length))) = (c2 ++ c ++ (Builtin.zeroCells zz.cells (cap - (l.length + xs.length))).toList).toArray := by apply Array.ext'; simp
              rw [hcells] at hrun
              obtain ⟨x1, s1⟩ := sd.retok (n' := l.length + xs.length) (c' := cap) hk hr (by omega) hge (Nat.succ_pos es) (c2 ++ c ++ (Builtin.zeroCells zz.cells (cap - (l.length + xs.length))).toList).toArray (by
                simp only [List.size_toArray, List.length_append, Array.length_toList, hcl, hc2l, ← Nat.add_mul, hzc]
                exact Nat.mul_le_mul_right _ (by omega))
              refine ⟨_, _, _, hrun, ?_, xd.trans x1, s1⟩
              have hle' : (l ++ xs).length ≤ cap := by simpa using hge
              rw [← List.length_append] at x1 s1 ⊢
              refine list_mk hes2 (hflat ▸ (q2.mono (xd.trans x1)).append (hc.mono (xd.trans x1))) (fun q u hq => cells_new hq) hone2 (fun _ => ?_) hle' (tok_one (c := cap) (el := el) ?_ rfl rfl)
              · simp
              · have hkl : k < φ.objs.length := by
                  rcases Nat.lt_or_ge k φ.objs.length with h' | h'
                  · exact h'
                  · rw [List.getElem?_eq_none h'] at hr; cases hr
                simp [hkl]
          · cases h
        · cases h
      · cases h

end
end Go.Am

