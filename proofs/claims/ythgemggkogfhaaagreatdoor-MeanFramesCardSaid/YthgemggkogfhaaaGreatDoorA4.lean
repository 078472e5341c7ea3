/-
  Quiet operations are sound (2). Conditions: none.
-/
import Derived.Test.YthgemggkogfhaaaGreatDoorA3
import Derived.Laws.BytesString
import Derived.Test.YthgemggkogfhaaaGreatDoorA2
namespace Go.Am
open Go Go.RowKit

section
variable {P : Program} {w0 : World} {φ : Phi} {σ : ASt} {w : World} {a : Frame} {ac : Act}

theorem Sim.ref_cell (s : Sim w0 φ σ w) {g : Nat} {es : List (AVal × AVal)} (h : σ[g]? = some (.map es)) : ∃ b ce cl es', φ.objs[g]? = some (.map b) ∧ w.heap[b]? = some (.map ce cl) ∧ es.Perm es' ∧ KDist (es.map (·.1)) ∧ es'.length = ce.size ∧ ∀ (i : Nat) p q, es'[i]? = some p → ce[i]? = some q → VR φ w p.1 q.key ∧ VR φ w p.2 q.val := by
  obtain ⟨r, h1, b, rfl, h2, h3, ce, cl, es', h4, hp, hd, h5, h6⟩ := s.ref h
  exact ⟨b, ce, cl, es', h1, h4, hp, hd, h5, h6⟩

theorem run_bind_getObj {α : Type} {b : Nat} {ce : Array MapEntry} {cl : Nat} (h : w.heap[b]? = some (.map ce cl)) (f : Obj → Sem α) : (getObj b >>= f).run P w = (f (.map ce cl)).run P w := by
  show (Sem.bind (getObj b) f).run P w = _
  simp [getObj, Sem.bind, Sem.run, h]

def EqOk (P : Program) (t : TypeId) : EqC → Prop
  | .bool => P.underlying t = some .bool
  | .ptr => ∃ e n, P.underlying t = some (.pointer e) ∧ szOf P e = some (n + 1)
  | .iface => ∃ ms, P.underlying t = some (.interface ms)
  | .slice => ∃ e, P.underlying t = some (.slice e)
  | .agg ks => ∃ fs, P.underlying t = some (.struct fs) ∧ flatFs P fs.toList 0 = some ks ∧ P.stoodInHeld t = false ∧ P.eqGuardType P.depth t = false

theorem cell_eq_run {t : TypeId} {k : CK} {x y : AVal} {cx cy : Value} {p : Bool} (d : Nat) (ht : match k with | .int => ∃ j, P.underlying t = some (.int j) | .str => P.underlying t = some .string | .bool => P.underlying t = some .bool) (h1 : ckOk k x = true) (hx : VR φ w x cx) (hy : VR φ w y cy)
    (h : cellEq x y = some p) : (Op.equalIn (d + 1) t cx cy).run P w = .ok p w := by
  cases k
  · obtain ⟨j, ht⟩ := ht
    cases hx <;> simp [ckOk] at h1
    cases hy <;> simp [cellEq] at h
    obtain ⟨rfl, rfl⟩ := h
    simp only [Op.equalIn, Sem.run_bind, r_und ht, Result.andThen_ok, if_true, Sem.run_pure]
    congr 1
  · cases hx <;> simp [ckOk] at h1
    cases hy <;> simp [cellEq] at h
    subst h
    simp only [Op.equalIn, Sem.run_bind, r_und ht, Result.andThen_ok, Sem.run_pure]
    congr 1
    rw [Bool.eq_iff_iff]
    rename_i s s'
    have : (ByteArray.mk s.toArray == ByteArray.mk s'.toArray) = (s.toArray == s'.toArray) := rfl
    rw [this]; simp
  · cases hx <;> simp [ckOk] at h1
    cases hy <;> simp [cellEq] at h
    subst h
    simp only [Op.equalIn, Sem.run_bind, r_und ht, Result.andThen_ok, Sem.run_pure]
    congr 1

def aggStep (d : Nat) (ca cb : Array Value) (f : Field) : Sem (ForInStep (Option Bool × Unit)) :=
  if f.name ≠ "_" then do
    let x ← part f.type ca f.offset
    let y ← part f.type cb f.offset
    let e ← Op.equalIn (d + 1) f.type x y
    if (!e) = true then pure (ForInStep.done (some false, ())) else pure (ForInStep.yield (none, ()))
  else pure (ForInStep.yield (none, ()))

theorem agg_loop {as bs : List AVal} {ca cb : List Value} (d : Nat) (ha : VRs φ w as ca) (hb : VRs φ w bs cb) (oa : ∀ v ∈ ca, v.oneCell' = true) (ob : ∀ v ∈ cb, v.oneCell' = true) : ∀ (l : List Field) (i : Nat) (ks : List CK) (b : Bool), flatFs P l i = some ks → cksOk ks (as.drop i) = true → cellsEq (as.drop i) (bs.drop i) = some b →
    (forIn l ((none : Option Bool), ()) fun f _ => aggStep d ca.toArray cb.toArray f).run P w = .ok (if b then none else some false, ()) w
  | [], i, ks, b, h1, h2, h3 => by
    simp only [flatFs, Option.some.injEq] at h1
    subst h1
    cases hl : as.drop i with
    | cons x l => rw [hl] at h2; simp [cksOk] at h2
    | nil =>
      rw [hl] at h3
      cases hm : bs.drop i with
      | cons x l => rw [hm] at h3; simp [cellsEq] at h3
      | nil => rw [hm] at h3; simp [cellsEq] at h3; subst h3; simp
  | f :: l, i, ks, b, h1, h2, h3 => by
    simp only [flatFs] at h1
    split at h1
    · rename_i hc
      obtain ⟨hc1, hc2⟩ := hc
      have key : ∀ (k : CK) ks', flatFs P l (i + 1) = some ks' → ks = k :: ks' → shp P f.type = some none → (match k with | .int => ∃ j, P.underlying f.type = some (.int j) | .str => P.underlying f.type = some .string | .bool => P.underlying f.type = some .bool) →
          (forIn (f :: l) ((none : Option Bool), ()) fun f _ => aggStep d ca.toArray cb.toArray f).run P w = .ok (if b then none else some false, ()) w := by
        intro k ks' q1 q2 q3 q4
        subst q2
        cases hl : as.drop i with
        | nil => rw [hl] at h2; simp [cksOk] at h2
        | cons x la =>
          rw [hl] at h2 h3
          cases hm : bs.drop i with
          | nil => rw [hm] at h3; simp [cellsEq] at h3
          | cons y lb =>
            rw [hm] at h3
            simp only [cellsEq] at h3
            simp only [cksOk, Bool.and_eq_true] at h2
            split at h3
            · rename_i p q e1 e2
              cases h3
              have ax : as[i]? = some x := by have := congrArg (fun l => l[0]?) hl; simpa using this
              have bx : bs[i]? = some y := by have := congrArg (fun l => l[0]?) hm; simpa using this
              have da : as.drop (i + 1) = la := by rw [← List.drop_drop, hl]; rfl
              have db : bs.drop (i + 1) = lb := by rw [← List.drop_drop, hm]; rfl
              obtain ⟨cx, g1, g2⟩ := gives_part (P := P) (w := w) (off := i) q3 ha oa (v := x) (by simpa [cut] using ax)
              obtain ⟨cy, g3, g4⟩ := gives_part (P := P) (w := w) (off := i) q3 hb ob (v := y) (by simpa [cut] using bx)
              have g5 := cell_eq_run (P := P) d q4 h2.1 g2 g4 e1
              have ih := agg_loop d ha hb oa ob l (i + 1) ks' q q1 (by rw [da]; exact h2.2) (by rw [da, db]; exact e2)
              rw [List.forIn_cons]
              simp only [aggStep, hc1, ne_eq, not_false_eq_true, if_true, hc2, Sem.run_bind, g1, g3, g5, Result.andThen_ok]
              cases p with
              | false => simp
              | true =>
                simp only [Bool.not_true, Bool.false_eq_true, if_false, Sem.run_pure, Result.andThen_ok, Bool.true_and]
                exact ih
            · cases h3
      split at h1
      · cases h1; exact key .int _ ‹_› rfl ‹_› ⟨_, ‹_›⟩
      · cases h1; exact key .str _ ‹_› rfl ‹_› ‹_›
      · cases h1; exact key .bool _ ‹_› rfl ‹_› ‹_›
      · cases h1
    · cases h1

theorem aeq_agg {ks : List CK} {x y : AVal} {b : Bool} (h : aeq (.agg ks) x y = some b) : ∃ as bs, x = .agg as ∧ y = .agg bs ∧ cksOk ks as = true ∧ cellsEq as bs = some b := by
  cases x with
  | agg as =>
    cases y with
    | agg bs =>
      simp only [aeq] at h
      split at h
      · rename_i hc; exact ⟨as, bs, rfl, rfl, hc.1, h⟩
      · cases h
    | _ => cases h
  | _ => cases h

theorem vr_agg_inv {as : List AVal} {c : Value} (h : VR φ w (.agg as) c) : ∃ cs : List Value, c = .agg cs.toArray ∧ VRs φ w as cs ∧ ∀ v ∈ cs, v.oneCell' = true := by
  cases h with
  | agg _ cs hl ho hv => exact ⟨cs, rfl, ⟨hl, hv⟩, ho⟩

theorem gives_eqAgg {ks : List CK} {t : TypeId} {x y : AVal} {cx cy : Value} {b : Bool} (d : Nat) (hx : VR φ w x cx) (hy : VR φ w y cy) (ht : EqOk P t (.agg ks))
    (h : aeq (.agg ks) x y = some b) : (Op.equalIn (d + 2) t cx cy).run P w = .ok b w := by
  obtain ⟨fs, ht, hf, hs, _⟩ := ht
  obtain ⟨as, bs, rfl, rfl, h1, h3⟩ := aeq_agg h
  obtain ⟨ca, rfl, va, oa⟩ := vr_agg_inv hx
  obtain ⟨cb, rfl, vb, ob⟩ := vr_agg_inv hy
  have hl := agg_loop (P := P) d va vb oa ob fs.toList 0 _ b hf (by simpa using h1) (by simpa using h3)
  simp only [Op.equalIn, Sem.run_bind, r_und ht, Result.andThen_ok, run_program, hs, Bool.false_eq_true, if_false]
  rw [← Array.forIn_toList]
  show ((forIn fs.toList ((none : Option Bool), ()) fun f _ => aggStep d ca.toArray cb.toArray f).run P w).andThen _ = _
  rw [hl]
  cases b <;> rfl

set_option maxHeartbeats 1000000 in
theorem gives_eqIn {c : EqC} {t : TypeId} {x y : AVal} {cx cy : Value} {b : Bool} (d : Nat) (hx : VR φ w x cx) (hy : VR φ w y cy) (ht : EqOk P t c)
    (h : aeq c x y = some b) : (Op.equalIn (d + 2) t cx cy).run P w = .ok b w := by
  cases c
  · have ht : P.underlying t = some .bool := ht
    cases hx <;> cases hy <;> simp [aeq] at h
    subst h
    simp only [Op.equalIn, Sem.run_bind, r_und ht, Result.andThen_ok, Sem.run_pure]
    congr 1
  · obtain ⟨e, n, ht, hs⟩ := ht
    cases hx <;> cases hy <;> simp [aeq] at h
    case ptr.ptr g o b1 sz h1 g' o' b2 sz2 h2 =>
      obtain ⟨rfl, rfl⟩ := h
      rw [h1] at h2; cases h2
      simp only [Op.equalIn, Sem.run_bind, r_und ht, Result.andThen_ok, r_size hs, sameAddr]
      simp
      rw [Bool.eq_iff_iff]; simp
    all_goals (subst h; simp [Op.equalIn, r_und ht])
  · obtain ⟨ms, ht⟩ := ht
    cases hx <;> cases hy <;> simp [aeq] at h
    all_goals (subst h; simp [Op.equalIn, r_und ht])
  · obtain ⟨e, ht⟩ := ht
    cases hx <;> cases hy <;> simp [aeq] at h
    all_goals (subst h; simp [Op.equalIn, r_und ht])
  · exact gives_eqAgg d hx hy ht h

theorem gives_eq {c : EqC} {t : TypeId} {x y : AVal} {cx cy : Value} {b : Bool} (hx : VR φ w x cx) (hy : VR φ w y cy) (ht : EqOk P t c) (h : aeq c x y = some b) : (Op.equal t cx cy).run P w = .ok b w :=
  gives_eqIn 9998 hx hy ht h

theorem r_bound {x : AVal} {cx : Value} {d n : Int} {y : Nat} {c : BoundsCode} (hx : VR φ w x cx) (h : bound d (some x) = some n) (h0 : 0 ≤ n) (h1 : n ≤ y) : (Instr.sliceBound cx y c).run P w = .ok n.toNat w := by
  cases hx <;> simp [bound] at h
  subst h
  simp [Instr.sliceBound, asIntOf, h0, h1]

def OptVR (φ : Phi) (w : World) : Option AVal → Option Value → Prop
  | none, none => True
  | some x, some c => VR φ w x c
  | _, _ => False

theorem r_bounds {lo hi : Option AVal} {clo chi : Option Value} {len cap : Nat} {l h : Int} {isl : Bool} (hlo : OptVR φ w lo clo) (hhi : OptVR φ w hi chi)
    (hl : bound 0 lo = some l) (hh : bound len hi = some h) (h0 : 0 ≤ l) (h1 : l ≤ h) (h2 : h ≤ len) (hc : len ≤ cap) : (Instr.sliceBounds isl len cap clo chi none).run P w = .ok (l.toNat, h.toNat, cap) w := by
  have hH : ((h.toNat : Nat) : Int) = h := by omega
  cases lo with
  | none => cases clo with
    | some c => exact hlo.elim
    | none =>
      simp [bound] at hl; subst hl
      cases hi with
      | none => cases chi with
        | some c => exact hhi.elim
        | none => simp [bound] at hh; subst hh; simp [Instr.sliceBounds]
      | some y => cases chi with
        | none => exact hhi.elim
        | some d =>
          have e1 : ∀ cd, (Instr.sliceBound d cap cd).run P w = .ok h.toNat w := fun cd => r_bound hhi hh (by omega) (by omega)
          simp [Instr.sliceBounds, e1]
  | some x => cases clo with
    | none => exact hlo.elim
    | some c =>
      cases hi with
      | none => cases chi with
        | some c => exact hhi.elim
        | none =>
          simp [bound] at hh; subst hh
          have e2 : ∀ cd, (Instr.sliceBound c len cd).run P w = .ok l.toNat w := fun cd => r_bound hlo hl h0 (by omega)
          simp [Instr.sliceBounds, e2]
      | some y => cases chi with
        | none => exact hhi.elim
        | some d =>
          have e1 : ∀ cd, (Instr.sliceBound d cap cd).run P w = .ok h.toNat w := fun cd => r_bound hhi hh (by omega) (by omega)
          have e2 : ∀ cd, (Instr.sliceBound c h.toNat cd).run P w = .ok l.toNat w := fun cd => r_bound hlo hl h0 (by omega)
          simp [Instr.sliceBounds, e1, e2]

theorem gives_slStr {t : TypeId} {x v : AVal} {cx : Value} {lo hi : Option AVal} {clo chi : Option Value} (ht : P.underlying t = some .string) (hx : VR φ w x cx)
    (hlo : OptVR φ w lo clo) (hhi : OptVR φ w hi chi) (h : aslStr x lo hi = some v) :
    Gives P φ w (Instr.sliceAt t cx clo chi none) v := by
  cases hx <;> simp [aslStr] at h
  rename_i s
  split at h
  · rename_i l h' hl hh
    simp at h
    obtain ⟨⟨h0, h1, h2⟩, rfl⟩ := h
    refine ⟨.string ⟨((s.drop l.toNat).take (h' - l).toNat).toArray⟩, ?_, .str _⟩
    simp only [Instr.sliceAt, Instr.slice, Sem.run_bind, r_und ht, Result.andThen_ok, Option.isSome_none, Bool.false_eq_true, if_false]
    have := r_bounds (P := P) (w := w) (isl := false) hlo hhi hl hh h0 h1 h2 (Nat.le_refl _)
    have e : (ByteArray.mk s.toArray).size = s.length := by simp [ByteArray.size]
    rw [e]
    simp only [Sem.run_pure, Result.andThen_ok, this]
    congr 2
    apply ByteArray.ext
    apply Array.ext'
    simp [ByteArray.data_extract, List.extract_eq_take_drop]
    congr 1; omega
  · simp at h

theorem gives_slList {t : TypeId} {el es : Nat} {x v : AVal} {cx : Value} {lo hi : Option AVal} {clo chi : Option Value} (ht : P.underlying t = some (.slice el)) (hs : szOf P el = some es) (hx : VR φ w x cx)
    (hlo : OptVR φ w lo clo) (hhi : OptVR φ w hi chi) (h : aslList es x lo hi = some v) :
    Gives P φ w (Instr.sliceAt t cx clo chi none) v := by
  cases hx <;> simp [aslList] at h
  · split at h
    · rename_i l h' hl hh
      simp at h
      obtain ⟨⟨rfl, rfl⟩, rfl⟩ := h
      refine ⟨.slice none 0 0, ?_, .nilslice⟩
      have := r_bounds (P := P) (w := w) (len := 0) (cap := 0) (isl := true) hlo hhi hl (by simpa using hh) (by omega) (by omega) (by omega) (by omega)
      simp [Instr.sliceAt, Instr.slice, r_und ht, this, r_size hs]
    · simp at h
  · rename_i tok es' s b o cap f hes hc ho hv hh' hcap ht'
    split at h
    · rename_i l h' hl hh
      simp at h
      obtain ⟨⟨rfl, h0, h1, h2⟩, rfl⟩ := h
      have e := r_bounds (P := P) (w := w) (isl := true) hlo hhi hl hh h0 h1 h2 hcap
      have hlen : ((s.drop l.toNat).take (h' - l).toNat).length = h'.toNat - l.toNat := by simp; omega
      refine ⟨.slice (if cap = l.toNat then some ⟨b, o, none⟩ else (some ⟨b, o, none⟩ : Option Addr).map (·.add (l.toNat * es))) (h'.toNat - l.toNat) (cap - l.toNat), ?_, ?_⟩
      · simp [Instr.sliceAt, Instr.slice, r_und ht, e, r_size hs]
      · have key : ∀ o2, (h'.toNat - l.toNat = 0 ∨ o2 = o + l.toNat * es) → VR φ w (.list none es ((s.drop l.toNat).take (h' - l).toNat)) (.slice (some ⟨b, o2, none⟩) (h'.toNat - l.toNat) (cap - l.toNat)) := by
          intro o2 ho2
          rw [← hlen]
          have hget : ∀ (i : Nat), i < h'.toNat - l.toNat → ((s.drop l.toNat).take (h' - l).toNat)[i]? = s[l.toNat + i]? := by
            intro i hi
            rw [List.getElem?_take, if_pos (by omega), List.getElem?_drop]
          refine .list none es _ b o2 (cap - l.toNat) (fun i j => f (l.toNat + i) j) (fun e he => hes e (List.mem_of_mem_drop (List.mem_of_mem_take he))) ?_ ?_ ?_ ?_ (by omega) (by simp)
          · intro i hi j hj
            have := hc (l.toNat + i) (by omega) j hj
            rw [Nat.add_mul] at this
            rcases ho2 with h0 | rfl
            · omega
            · rw [← this]; congr 2; omega
          · intro i hi j hj; exact ho _ (by omega) j hj
          · intro i e he j a ha
            have hi : i < h'.toNat - l.toNat := by
              rcases Nat.lt_or_ge i (h'.toNat - l.toNat) with hi | hi
              · exact hi
              · rw [List.getElem?_eq_none (by omega)] at he; simp at he
            rw [hget i hi] at he
            exact hv _ e he j a ha
          · intro hp
            rcases ho2 with h0 | rfl
            · rw [hlen, h0] at hp; simp at hp
            · have hle : (l.toNat + ((s.drop l.toNat).take (h' - l).toNat).length) * es ≤ s.length * es := Nat.mul_le_mul_right es (by omega)
              rw [Nat.add_mul] at hle
              have := hh' (by omega)
              omega
        split
        · rename_i hcl; exact key o (.inl (by omega))
        · simp only [Option.map_some, add_none]; exact key _ (.inr rfl)
    · simp at h

def LenOk (P : Program) (t : TypeId) : LC → Prop
  | .str => P.underlying t = some .string
  | .slice => ∃ e, P.underlying t = some (.slice e)
  | .map => ∃ k e, P.underlying t = some (.map k e)

theorem gives_len {c : LC} {t : TypeId} {x v : AVal} {cx : Value} {ats : Array TypeId} {vs : Array Value} (s : Sim w0 φ σ w) (hat : ats[0]? = some t) (hvs : vs[0]? = some cx) (ht : LenOk P t c) (hx : VR φ w x cx) (h : alen c x σ = some v) (T : TypeId) : Gives P φ w (Builtin.len_ ats T vs) v := by
  cases c
  · have ht : P.underlying t = some .string := ht
    cases hx <;> simp [alen] at h
    subst h
    rename_i s'
    have e : (ByteArray.mk s'.toArray).size = s'.length := by simp [ByteArray.size]
    exact ⟨_, by simp [Builtin.len_, hat, hvs, r_und ht, goInt, e], .int _ _⟩
  · obtain ⟨e, ht⟩ := ht
    cases hx <;> simp [alen] at h
    all_goals (subst h; exact ⟨_, by simp [Builtin.len_, hat, hvs, r_und ht, goInt], .int _ _⟩)
  · obtain ⟨k, e, ht⟩ := ht
    cases hx <;> simp only [alen] at h <;> try simp at h
    · subst h; exact ⟨_, by simp [Builtin.len_, hat, hvs, r_und ht, goInt], .int _ _⟩
    · rename_i g b hb
      split at h
      · rename_i es hes
        simp at h; subst h
        obtain ⟨b', ce, cl, es', h1, h2, hp, _, h3, h4⟩ := s.ref_cell hes
        rw [hb] at h1; cases h1
        rw [← hp.length_eq] at h3
        refine ⟨.int .i64 es.length, ?_, .int _ _⟩
        simp [Builtin.len_, hat, hvs, r_und ht, goInt, run_bind_getObj h2, h3]
      · simp at h

theorem gives_max {x y v : AVal} {cx cy : Value} {ats : Array TypeId} {vs : Array Value} (hvs : vs.toList = [cx, cy]) (hx : VR φ w x cx) (hy : VR φ w y cy)
    (h : amaxi x y = some v) (T : TypeId) : Gives P φ w (Builtin.max_ ats T vs) v := by
  cases hx <;> cases hy <;> simp [amaxi] at h
  obtain ⟨rfl, rfl⟩ := h
  exact ⟨_, by simp [Builtin.max_, hvs, Builtin.max2], .int _ _⟩

theorem gives_assert {t xt : TypeId} {d : TypeDesc} {z x v : AVal} {cx : Value} (ht : P.underlying t = some d) (hd : ∀ ms, d ≠ .interface ms) (hz : zeroV P t = some z) (hx : VR φ w x cx) (h : aassert t z x = some v) : Gives P φ w (Instr.typeAssert cx xt t true) v := by
  obtain ⟨zv, h1, h2⟩ := zeroV_ok hz φ w
  have tup : ∀ {p : AVal} {cp : Value} {b : Bool}, VR φ w p cp → VR φ w (.tuple [p, .bool b]) (.tuple #[cp, .bool b]) := by
    intro p cp b hp
    have := VRs.cons hp (VRs.one (VR.bool b))
    exact .tuple _ _ this.1 this.2
  cases hx <;> simp [aassert] at h
  case iface u x' v' hv =>
    split at h
    · rename_i e
      subst e h
      refine ⟨_, ?_, tup hv⟩
      cases d <;> first | (exact absurd rfl (hd _)) | simp [Instr.typeAssert, r_und ht]
    · rename_i e
      subst h
      refine ⟨_, ?_, tup h2⟩
      cases d <;> first | (exact absurd rfl (hd _)) | simp [Instr.typeAssert, r_und ht, e, h1]
  case nilIface =>
    subst h
    refine ⟨_, ?_, tup h2⟩
    cases d <;> first | (exact absurd rfl (hd _)) | simp [Instr.typeAssert, r_und ht, h1]

theorem gives_assert1 {t xt : TypeId} {d : TypeDesc} {x v : AVal} {cx : Value} (ht : P.underlying t = some d) (hd : ∀ ms, d ≠ .interface ms) (hx : VR φ w x cx) (h : aassert1 t x = some v) : Gives P φ w (Instr.typeAssert cx xt t false) v := by
  cases hx <;> simp [aassert1] at h
  case iface u x' v' hv =>
    obtain ⟨e, h⟩ := h
    subst e h
    refine ⟨_, ?_, hv⟩
    cases d <;> first | (exact absurd rfl (hd _)) | simp [Instr.typeAssert, r_und ht]

theorem gives_sdata {x v : AVal} {cx : Value} {vs : Array Value} {ats : Array TypeId} {T : TypeId} (hvs : vs = #[cx]) (hx : VR φ w x cx) (h : asdata x = some v) : Gives P φ w (Builtin.unsafeSliceData_ ats T vs) v := by
  subst hvs
  cases hx <;> (try simp [asdata] at h)
  · subst h; exact ⟨.pointer none, rfl, .nilptr⟩
  · rename_i tok es l b o cap f hes hc ho hv hh hcap ht
    cases l with
    | nil => exact absurd h (by simp)
    | cons e l =>
      have h : some (AVal.dptr (.list tok es (e :: l))) = some v := h
      cases h
      have hne : cap ≠ 0 := by simp at hcap; omega
      refine ⟨.pointer (some ⟨b, o, none⟩), ?_, .dptr _ b o _ cap (.list tok es (e :: l) b o cap f hes hc ho hv hh hcap ht)⟩
      show Sem.run P (if cap ≠ 0 then pure _ else _) w = _
      rw [if_pos hne]; rfl

end
end Go.Am

namespace Go.Am
open Go Go.RowKit

section
variable {P : Program} {w0 : World} {φ : Phi} {σ : ASt} {w : World} {a : Frame} {ac : Act}

def KeyKind (P : Program) : KC → TypeDesc → Prop
  | .int, d => ∃ k, d = .int k
  | .str, d => d = .string
  | .bool, d => d = .bool
  | .pair, d => ∃ el ms i3 i9, d = .array 2 el ∧ P.underlying el = some (.interface ms) ∧ shp P el = some none ∧ szOf P el = some 1 ∧ P.underlying 3 = some (.int .i64) ∧ P.underlying 9 = some .string ∧ P.info? 3 = some i3 ∧ P.info? 9 = some i9 ∧ i3.comparable = true ∧ i9.comparable = true

theorem keyC_ok {t : TypeId} {c : KC} (h : keyC P t = some c) : ∃ d, P.underlying t = some d ∧ KeyKind P c d := by
  unfold keyC at h
  split at h
  · simp at h; subst h; exact ⟨_, ‹_›, _, rfl⟩
  · simp at h; subst h; exact ⟨_, ‹_›, rfl⟩
  · simp at h; subst h; exact ⟨_, ‹_›, rfl⟩
  · split at h
    · split at h
      · rename_i hc
        simp only [Bool.and_eq_true] at hc
        cases h
        exact ⟨_, ‹_›, _, _, _, _, rfl, ‹_›, ‹_›, ‹_›, ‹_›, ‹_›, ‹_›, ‹_›, hc.1, hc.2⟩
      · cases h
    · cases h
  · cases h

theorem bytes_beq (a b : List UInt8) : (ByteArray.mk a.toArray == ByteArray.mk b.toArray) = decide (a = b) := by
  have : (ByteArray.mk a.toArray == ByteArray.mk b.toArray) = (a.toArray == b.toArray) := rfl
  rw [this, Bool.eq_iff_iff]; simp

theorem same_now {c : KC} {d : TypeDesc} {x y : AVal} {cx cy : Value} {b : Bool} (hd : KeyKind P c d) (hnp : c ≠ .pair) (hx : VR φ w x cx) (hy : VR φ w y cy) (h : keyEq c x y = some b) : Instr.sameNow d cx cy = some b := by
  cases c
  · obtain ⟨k, rfl⟩ := hd
    cases hx <;> cases hy <;> simp [keyEq] at h
    obtain ⟨rfl, rfl⟩ := h
    simp [Instr.sameNow]
    rw [Bool.eq_iff_iff]; simp
  · have hd : d = .string := hd
    subst hd
    cases hx <;> cases hy <;> simp [keyEq] at h
    subst h
    simp only [Instr.sameNow, Option.some.injEq]
    exact bytes_beq _ _
  · have hd : d = .bool := hd
    subst hd
    cases hx <;> cases hy <;> simp [keyEq] at h
    subst h
    simp only [Instr.sameNow]
    congr 1
  · exact absurd rfl hnp

/-- A key of a pair's kind, as the abstract layer and the model hold it. -/
theorem pair_inv {x y : AVal} {b : Bool} (h : keyEq .pair x y = some b) : ∃ k n s k' n' s', x = .agg [.iface 3 (.int k n), .iface 9 (.str s)] ∧ y = .agg [.iface 3 (.int k' n'), .iface 9 (.str s')] ∧ k = k' ∧ b = (decide (n = n') && decide (s = s')) := by
  unfold keyEq at h
  split at h <;> try (rename_i e; cases e; done)
  · rename_i t x u y t' x' u' y' _
    split at h
    · rename_i hc
      obtain ⟨rfl, rfl, rfl, rfl, h5, h6⟩ := hc
      cases x <;> simp [AVal.isInt] at h5
      cases y <;> simp [AVal.isStr] at h6
      split at h
      · rename_i p q h1 h2
        cases x' <;> simp [cellEq] at h1
        cases y' <;> simp [cellEq] at h2
        obtain ⟨rfl, rfl⟩ := h1
        subst h2
        cases h
        exact ⟨_, _, _, _, _, _, rfl, rfl, rfl, rfl⟩
      · cases h
    · cases h
  · cases h

theorem pair_vr {k : IntKind} {n : Int} {s : List UInt8} {c : Value} (h : VR φ w (.agg [.iface 3 (.int k n), .iface 9 (.str s)]) c) : c = .agg #[.iface 3 (.int k n), .iface 9 (.string ⟨s.toArray⟩)] := by
  obtain ⟨cs, rfl, hv, _⟩ := vr_agg_inv h
  obtain ⟨a, l, rfl, h1, hv⟩ := hv.inv_cons
  obtain ⟨b, l', rfl, h2, hv⟩ := hv.inv_cons
  have hl := hv.1
  cases l' with
  | cons => simp at hl
  | nil =>
    cases h1 with
    | iface _ _ u h3 =>
      cases h3
      cases h2 with
      | iface _ _ u h4 => cases h4; rfl

theorem equal_pair' (m : Nat) {d : TypeDesc} {t : TypeId} {x y : AVal} {cx cy : Value} {b : Bool} (hd : KeyKind P .pair d) (ht : P.underlying t = some d) (hx : VR φ w x cx) (hy : VR φ w y cy) (h : keyEq .pair x y = some b) : (Op.equalIn (m + 1 + 1 + 1) t cx cy).run P w = .ok b w := by
  obtain ⟨el, ms, i3, i9, rfl, u1, u2, u3, u4, u5, u6, u7, u8, u9⟩ := hd
  obtain ⟨k, n, s, k', n', s', rfl, rfl, rfl, rfl⟩ := pair_inv h
  rw [pair_vr hx, pair_vr hy]
  have part1 : ∀ (a b : Value), (part el #[a, b] 0).run P w = .ok a w := fun a b => by simp [part, r_shp_none u2]
  have part2 : ∀ (a b : Value), (part el #[a, b] 1).run P w = .ok b w := fun a b => by simp [part, r_shp_none u2]
  have e1 : (Op.equalIn (m + 1 + 1) el (.iface 3 (.int k n)) (.iface 3 (.int k n'))).run P w = .ok (decide (n = n')) w := by
    simp only [Op.equalIn, Sem.run_bind, r_und u1, Result.andThen_ok, ne_eq, not_true_eq_false, if_false, r_info u6, u8, Bool.not_true, Bool.false_eq_true, r_und u4, if_true, Sem.run_pure]
    congr 1
  have e2 : (Op.equalIn (m + 1 + 1) el (.iface 9 (.string ⟨s.toArray⟩)) (.iface 9 (.string ⟨s'.toArray⟩))).run P w = .ok (decide (s = s')) w := by
    simp only [Op.equalIn, Sem.run_bind, r_und u1, Result.andThen_ok, ne_eq, not_true_eq_false, if_false, r_info u7, u9, Bool.not_true, Bool.false_eq_true, r_und u5, Sem.run_pure]
    rw [bytes_beq]
  rw [Op.equalIn]
  simp only [Sem.run_bind, r_und ht, Result.andThen_ok, r_size u3]
  simp [List.range', part1, part2, e1, e2]
  by_cases hn : n = n' <;> by_cases hs : s = s' <;> simp [hn, hs]

theorem equal_pair {d : TypeDesc} {t : TypeId} {x y : AVal} {cx cy : Value} {b : Bool} (hd : KeyKind P .pair d) (ht : P.underlying t = some d) (hx : VR φ w x cx) (hy : VR φ w y cy) (h : keyEq .pair x y = some b) : (Op.equal t cx cy).run P w = .ok b w :=
  equal_pair' 9997 hd ht hx hy h

theorem check_key' (m : Nat) {c : KC} {d : TypeDesc} {t : TypeId} {k : AVal} {ck : Value} (hd : KeyKind P c d) (ht : P.underlying t = some d) (hk : VR φ w k ck) (hok : keyOk c k = true) (e : Bool) : (Instr.checkKey e (m + 1 + 1 + 1) t ck).run P w = .ok () w := by
  cases c
  · obtain ⟨k, rfl⟩ := hd
    rw [Instr.checkKey]; simp only [Sem.run_bind, r_und ht, Result.andThen_ok]
    cases hk <;> simp
  · have hd : d = .string := hd
    subst hd
    rw [Instr.checkKey]; simp only [Sem.run_bind, r_und ht, Result.andThen_ok]
    cases hk <;> simp
  · have hd : d = .bool := hd
    subst hd
    rw [Instr.checkKey]; simp only [Sem.run_bind, r_und ht, Result.andThen_ok]
    cases hk <;> simp
  · obtain ⟨el, ms, i3, i9, rfl, u1, u2, u3, u4, u5, u6, u7, u8, u9⟩ := hd
    unfold keyOk at hok
    cases hq : keyEq .pair k k with
    | none => rw [hq] at hok; cases hok
    | some b =>
      obtain ⟨j, n, s, j', n', s', rfl, e2, _, _⟩ := pair_inv hq
      rw [pair_vr hk]
      have part1 : ∀ (a b : Value), (part el #[a, b] 0).run P w = .ok a w := fun a b => by simp [part, r_shp_none u2]
      have part2 : ∀ (a b : Value), (part el #[a, b] 1).run P w = .ok b w := fun a b => by simp [part, r_shp_none u2]
      have c1 : (Instr.checkKey e (m + 1 + 1) el (.iface 3 (.int j n))).run P w = .ok () w := by
        simp only [Instr.checkKey, Sem.run_bind, r_und u1, Result.andThen_ok, r_info u6, u8, Bool.not_true, Bool.false_eq_true, if_false, r_und u4, Sem.run_pure]
      have c2 : (Instr.checkKey e (m + 1 + 1) el (.iface 9 (.string ⟨s.toArray⟩))).run P w = .ok () w := by
        simp only [Instr.checkKey, Sem.run_bind, r_und u1, Result.andThen_ok, r_info u7, u9, Bool.not_true, Bool.false_eq_true, if_false, r_und u5, Sem.run_pure]
      rw [Instr.checkKey]
      simp only [Sem.run_bind, r_und ht, Result.andThen_ok]
      simp [List.range', r_size u3, part1, part2, c1, c2]

theorem check_key {c : KC} {d : TypeDesc} {t : TypeId} {k : AVal} {ck : Value} (hd : KeyKind P c d) (ht : P.underlying t = some d) (hk : VR φ w k ck) (hok : keyOk c k = true) (e : Bool) : (Instr.checkKey e 10000 t ck).run P w = .ok () w :=
  check_key' 9997 hd ht hk hok e

/-- What is found of a key from a place on. -/
def FindRun (P : Program) (w : World) (c : KC) (d : TypeDesc) (kt : TypeId) (ck : Value) (ce : List MapEntry) (i : Nat) (r : Option (Nat × Value)) : Prop :=
  match c with
  | .pair => (Instr.findAsking kt ck ce i).run P w = .ok r w
  | _ => Instr.findNow d ck ce i = some r

section
variable {c : KC} {d : TypeDesc} {kt : TypeId} {k : AVal} {ck : Value}

theorem find_nil (i : Nat) : FindRun P w c d kt ck [] i none := by
  cases c <;> simp [FindRun, Instr.findNow, Instr.findAsking]

theorem find_hit (hd : KeyKind P c d) (ht : P.underlying kt = some d) (hk : VR φ w k ck) {y : AVal} {q : MapEntry} (hy : VR φ w y q.key) (h : keyEq c k y = some true) (ce : List MapEntry) (i : Nat) : FindRun P w c d kt ck (q :: ce) i (some (i, q.val)) := by
  by_cases hc : c = .pair
  · subst hc
    simp only [FindRun, Instr.findAsking, Sem.run_bind, equal_pair hd ht hk hy h, Result.andThen_ok, if_true, Sem.run_pure]
  · have := same_now hd hc hk hy h
    cases c <;> first | exact absurd rfl hc | simp only [FindRun, Instr.findNow, this]

theorem find_miss (hd : KeyKind P c d) (ht : P.underlying kt = some d) (hk : VR φ w k ck) {y : AVal} {q : MapEntry} (hy : VR φ w y q.key) (h : keyEq c k y = some false) {ce : List MapEntry} {i : Nat} {r : Option (Nat × Value)} (hr : FindRun P w c d kt ck ce (i + 1) r) : FindRun P w c d kt ck (q :: ce) i r := by
  by_cases hc : c = .pair
  · subst hc
    simp only [FindRun] at hr ⊢
    simp only [Instr.findAsking, Sem.run_bind, equal_pair hd ht hk hy h, Result.andThen_ok, Bool.false_eq_true, if_false, hr]
  · have := same_now hd hc hk hy h
    cases c <;> first | exact absurd rfl hc | (simp only [FindRun] at hr ⊢; simp only [Instr.findNow, this, hr])

theorem find_out (hd : KeyKind P c d) (ht : P.underlying kt = some d) {ce : List MapEntry} {r : Option (Nat × Value)} (hr : FindRun P w c d kt ck ce 0 r) : (Instr.findKey kt ck ce).run P w = .ok r w := by
  cases c
  case pair =>
    obtain ⟨el, ms, i3, i9, rfl, _⟩ := hd
    simp only [FindRun] at hr
    cases ce with
    | nil =>
      simp [Instr.findAsking] at hr
      subst hr
      simp [Instr.findKey, r_und ht, Instr.findNow]
    | cons q ce =>
      have : Instr.findNow (.array 2 el) ck (q :: ce) 0 = none := by simp [Instr.findNow, Instr.sameNow]
      simp [Instr.findKey, r_und ht, this, hr]
  all_goals
    simp only [FindRun] at hr
    simp [Instr.findKey, r_und ht, hr]

end

def EntsOk (φ : Phi) (w : World) (es : List (AVal × AVal)) (ce : List MapEntry) : Prop := es.length = ce.length ∧ ∀ (i : Nat) p q, es[i]? = some p → ce[i]? = some q → VR φ w p.1 q.key ∧ VR φ w p.2 q.val

theorem EntsOk.tail {p : AVal × AVal} {es : List (AVal × AVal)} {q : MapEntry} {ce : List MapEntry} (h : EntsOk φ w (p :: es) (q :: ce)) : (VR φ w p.1 q.key ∧ VR φ w p.2 q.val) ∧ EntsOk φ w es ce :=
  ⟨h.2 0 p q rfl rfl, by simpa using h.1, fun i p q h1 h2 => h.2 (i + 1) p q (by simpa using h1) (by simpa using h2)⟩

theorem find_now {c : KC} {d : TypeDesc} {kt : TypeId} {k : AVal} {ck : Value} (hd : KeyKind P c d) (ht : P.underlying kt = some d) (hk : VR φ w k ck) : ∀ (es : List (AVal × AVal)) (ce : List MapEntry) (i : Nat) (r : Option AVal), EntsOk φ w es ce → findKey c k es = some r →
    match r with
    | none => FindRun P w c d kt ck ce i none
    | some v => ∃ j cv, FindRun P w c d kt ck ce i (some (j, cv)) ∧ VR φ w v cv
  | [], [], i, r, _, h => by simp [findKey] at h; subst h; exact find_nil i
  | [], _ :: _, _, _, h, _ => by have := h.1; simp at this
  | _ :: _, [], _, _, h, _ => by have := h.1; simp at this
  | p :: es, q :: ce, i, r, he, h => by
    obtain ⟨⟨h1, h2⟩, h3⟩ := he.tail
    simp only [findKey] at h
    split at h
    · rename_i hq
      cases h
      exact ⟨i, q.val, find_hit hd ht hk h1 hq ce i, h2⟩
    · rename_i hq
      have := find_now hd ht hk es ce (i + 1) r h3 h
      split at this
      · exact find_miss hd ht hk h1 hq this
      · obtain ⟨j, cv, h5, h6⟩ := this
        exact ⟨j, cv, find_miss hd ht hk h1 hq h5, h6⟩
    · simp at h

theorem gives_lookup {c : KC} {t kt el : TypeId} {z m k v : AVal} {ok : Bool} {cm ck : Value} (s : Sim w0 φ σ w) (ht : P.underlying t = some (.map kt el)) (hkc : keyC P kt = some c) (hz : zeroV P el = some z) (hm : VR φ w m cm) (hk : VR φ w k ck)
    (h : alookup c z ok m k σ = some v) : Gives P φ w (Instr.lookup t cm ck ok) v := by
  obtain ⟨d, hd1, hd2⟩ := keyC_ok hkc
  obtain ⟨zv, hz1, hz2⟩ := zeroV_ok hz φ w
  have tup : ∀ {p : AVal} {cp : Value} {b : Bool}, VR φ w p cp → VR φ w (.tuple [p, .bool b]) (.tuple #[cp, .bool b]) := by
    intro p cp b hp
    have := VRs.cons hp (VRs.one (VR.bool b))
    exact .tuple _ _ this.1 this.2
  unfold alookup at h
  split at h
  · simp at h
  · rename_i hkok
    have hkok : keyOk c k = true := by simpa using hkok
    cases hm <;> simp only [] at h <;> try (exact absurd h (by simp))
    rename_i g b hb
    split at h
    · rename_i es hes
      obtain ⟨b', ce, cl, es', h1, h2, hpe, hde, h3, h4⟩ := s.ref_cell hes
      rw [hb] at h1; cases h1
      have he : EntsOk φ w es' ce.toList := ⟨by simpa using h3, fun i p q hp hq => h4 i p q hp (by simpa using hq)⟩
      have hck := check_key hd2 hd1 hk hkok ce.isEmpty
      have hpre : ∀ r, FindRun P w c d kt ck ce.toList 0 r → (Instr.findKey kt ck ce.toList).run P w = .ok r w := fun r hr => find_out hd2 hd1 hr
      split at h
      · rename_i v' hf
        obtain ⟨j, cv, h5, h6⟩ := find_now hd2 hd1 hk es' ce.toList 0 (some v') he (find_perm hpe hde hf)
        cases ok <;> simp at h <;> subst h
        · exact ⟨cv, by simp [Instr.lookup, r_und ht, run_bind_getObj h2, hck, hpre _ h5], h6⟩
        · exact ⟨_, by simp [Instr.lookup, r_und ht, run_bind_getObj h2, hck, hpre _ h5], tup h6⟩
      · rename_i hf
        have h5 := find_now hd2 hd1 hk es' ce.toList 0 none he (find_perm hpe hde hf)
        simp only at h5
        cases ok <;> simp at h <;> subst h
        · exact ⟨zv, by simp [Instr.lookup, r_und ht, run_bind_getObj h2, hck, hpre _ h5, hz1], hz2⟩
        · exact ⟨_, by simp [Instr.lookup, r_und ht, run_bind_getObj h2, hck, hpre _ h5, hz1], tup hz2⟩
      · simp at h
    · simp at h

end
end Go.Am

