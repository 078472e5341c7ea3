/-
  Quiet operations are sound (3). Conditions: none.
-/
import Derived.Test.YthgemggkogfhaaaGreatDoorA4
import Derived.Lib.Builder
import Derived.Laws.Externs
namespace Go.Am
open Go Go.RowKit

section
variable {P : Program} {w0 : World} {φ : Phi} {σ : ASt} {w : World} {a : Frame} {ac : Act}

theorem gives_slArr {t : TypeId} {el n es : Nat} {x v : AVal} {cx : Value} (s : Sim w0 φ σ w) (ht : P.underlying t = some (.array n el)) (hs : szOf P el = some es) (hx : VR φ w x cx) (h : aslArr es n x σ = some v) : Gives P φ w (Instr.sliceAt t cx none none none) v := by
  cases hx <;> simp only [aslArr] at h <;> try (exact absurd h (by simp))
  rename_i g off b sz hr
  split at h
  · rename_i cs hcs
    simp at h
    obtain ⟨⟨h0, h1, h2⟩, rfl⟩ := h
    obtain ⟨b', sz', e, _, _, c, el', _, h4, h5, _⟩ := s.obj g _ _ hcs hr
    cases e
    have e : off / es * es = off := by have := Nat.div_add_mod off es; rw [h0, Nat.mul_comm] at this; omega
    have hv : VR φ w (.mslice g es (off / es) n) (.slice (some ⟨b, off / es * es, none⟩) n n) := .mslice g es _ n b sz n hr (Nat.le_refl _) (by rw [Nat.add_mul, e]; omega)
    rw [e] at hv
    refine ⟨_, ?_, hv⟩
    simp [Instr.sliceAt, Instr.sliceBounds, r_und ht, Instr.sureAddr, r_size hs, add_none]
  · simp at h

theorem bytes_list : ∀ (l : List AVal) (bs : List UInt8), bytesOf l = some bs → ∃ ns : List Int, l = ns.map (AVal.int .u8) ∧ bs = ns.map fun n => UInt8.ofNat n.toNat
  | [], bs, h => by simp [bytesOf] at h; subst h; exact ⟨[], rfl, rfl⟩
  | x :: l, bs, h => by
    unfold bytesOf at h
    split at h
    · rename_i heq; cases heq
    · rename_i n l' heq
      cases heq
      simp at h
      obtain ⟨b, hb, rfl⟩ := h
      obtain ⟨ns, rfl, rfl⟩ := bytes_list l b hb
      exact ⟨n :: ns, rfl, rfl⟩
    · cases h

theorem vr_int {k : IntKind} {n : Int} {u : Value} (h : VR φ w (.int k n) u) : u = .int k n := by cases h; rfl

theorem foldl_push (ns : List Int) : ∀ (r : ByteArray), ns.foldl (fun r n => r.push (UInt8.ofNat n.toNat)) r = ⟨r.data ++ (ns.map fun n => UInt8.ofNat n.toNat).toArray⟩ := by
  induction ns with
  | nil => intro r; simp
  | cons n ns ih =>
    intro r
    rw [List.foldl_cons, ih]
    apply ByteArray.ext
    simp [ByteArray.push]

theorem gives_bstr {src dst e : TypeId} {x v : AVal} {cx : Value} (hs : P.underlying src = some (.slice e)) (hd : P.underlying dst = some .string) (he : P.underlying e = some (.int .u8)) (hx : VR φ w x cx) (h : abstr x = some v) : Gives P φ w (convert src dst cx) v := by
  unfold abstr at h
  split at h
  · cases h
    cases hx
    exact ⟨.string .empty, by simp [convert, r_und hs, r_und hd, r_und he, Conv.bytesToString], .str []⟩
  · rename_i tok l
    · simp at h
      obtain ⟨bs, hb, rfl⟩ := h
      obtain ⟨ns, rfl, rfl⟩ := bytes_list _ _ hb
      cases hx with
      | list _ _ _ b o cap f hes hc ho hv hh hcap ht =>
        have hcell : ∀ j, j < ns.length → w.cell? ((Addr.mk b o none).add j) = some (Value.int .u8 (ns.getD j 0)) := by
          intro j hj
          have h1 := hc j (by simpa using hj) 0 (by omega)
          have h2 := hv j (.int .u8 ns[j]) (by simp [hj]) 0 (.int .u8 ns[j]) rfl
          rw [add_none]
          simp only [Nat.mul_one, Nat.add_zero] at h1
          rw [h1]
          have : f j 0 = .int .u8 ns[j] := vr_int h2
          rw [this]; simp [List.getD, hj]
        have hl : (loadCells ⟨b, o, none⟩ ns.length).run P w = .ok (ns.map (Value.int .u8)).toArray w := by
          rw [run_loadCells w _ ns.length (fun j => Value.int .u8 (ns.getD j 0)) hcell]
          congr 2
          apply List.ext_getElem
          · simp
          · intro i h1 h2
            simp at h1 h2
            simp [List.getD, h1]
        have hb := run_bytesToString (P := P) w ⟨b, o, none⟩ ns.length cap ns hl
        rw [foldl_push] at hb
        refine ⟨.string ⟨(ns.map fun n => UInt8.ofNat n.toNat).toArray⟩, ?_, .str _⟩
        simp only [convert, Sem.run_bind, r_und hs, r_und hd, Result.andThen_ok, r_und he, List.length_map]
        rw [hb]
        congr 2
        apply ByteArray.ext
        simp
  · simp at h

/-- A value that an operation comes to, as the machine takes it. -/
theorem run_v {x : Sem Value} {v : AVal} (h : Gives P φ w x v) : ∃ cv, ((do pure (.value (← x)) : Sem Next)).run P w = .ok (.value cv) w ∧ VR φ w v cv := by
  obtain ⟨cv, h1, h2⟩ := h
  exact ⟨cv, by simp [h1], h2⟩

theorem optO {x : Option Operand} {y : Option IOpd} (fr : FR φ w a ac.tmps) (h : trO x = some y) : OptVR φ w (y.map (·.ev a)) (x.map ac.eval) := by
  cases x with
  | none => simp [trO] at h; subst h; trivial
  | some x => simp [trO] at h; obtain ⟨z, hz, rfl⟩ := h; exact opd_ok fr hz

end
end Go.Am

namespace Go.Am
open Go Go.RowKit

section
variable {P : Program} {w0 : World} {φ : Phi} {σ : ASt} {w : World} {a : Frame} {ac : Act}

def QGives (P : Program) (φ : Phi) (w : World) (x : Sem Next) (v : AVal) : Prop := ∃ cv, x.run P w = .ok (.value cv) w ∧ VR φ w v cv

theorem qg {x : Sem Value} {y : Sem Next} {v : AVal} (h : Gives P φ w x v) (e : y = (do pure (.value (← x)))) : QGives P φ w y v := by subst e; exact run_v h

theorem nilc_of {x : Operand} (h : isNilC x = true) : x = .const .nilIface := by
  cases x <;> simp [isNilC] at h
  rename_i v; cases v <;> simp at h; rfl

theorem tr_bin {op : BinOp} {t : TypeId} {x y : Operand} {q : QOp} {v : AVal} (fr : FR φ w a ac.tmps) (h : trBin P op t x y = some q) (hv : q.ev a σ = some v) :
    Gives P φ w (do eqGuard op t x y (ac.eval x) (ac.eval y); binOp op t (ac.eval x) (ac.eval y)) v := by
  unfold trBin at h
  split at h
  rename_i x' y' hx hy
  · have vx := opd_ok fr hx
    have vy := opd_ok fr hy
    have plain : ∀ (hp : q = .bin op x' y'), Gives P φ w (do eqGuard op t x y (ac.eval x) (ac.eval y); binOp op t (ac.eval x) (ac.eval y)) v := by
      intro hp
      subst hp
      simp only [QOp.ev] at hv
      generalize x'.ev a = ax at vx hv
      generalize y'.ev a = ay at vy hv
      generalize ac.eval x = cx at vx ⊢
      generalize ac.eval y = cy at vy ⊢
      cases vx <;> cases vy <;> simp only [abin] at hv <;> try (exact absurd hv (by simp))
      · rename_i k m k' n
        have g : Gives P φ w (binOp op t (.int k m) (.int k' n)) v := by
          by_cases ho : op = .shl ∨ op = .shr
          · refine gives_shBin ho ?_
            rcases ho with rfl | rfl <;> exact hv
          · have hv' : (if k = k' then intBin op k m n else none) = some v := by
              cases op <;> first | exact hv | (exact absurd (by simp) ho)
            split at hv'
            · rename_i e; subst e
              exact gives_intBin ⟨fun e => ho (.inl e), fun e => ho (.inr e)⟩ hv'
            · cases hv'
        obtain ⟨cv, h1, h2⟩ := g
        refine ⟨cv, ?_, h2⟩
        cases op <;> simp [eqGuard, h1]
      · rename_i l m
        obtain ⟨cv, h1, h2⟩ := gives_strBin (P := P) (φ := φ) (w := w) (t := t) hv
        refine ⟨cv, ?_, h2⟩
        cases op <;> simp [eqGuard, h1]
    split at h
    · simp at h; exact plain h.symm
    · rename_i ng hng
      have hop : (op = .eql ∧ ng = false) ∨ (op = .neq ∧ ng = true) := by cases op <;> simp [isEq] at hng <;> simp [← hng]
      have aggs : ∀ ks, EqOk P t (.agg ks) → q = .eq (.agg ks) ng x' y' → Gives P φ w (do eqGuard op t x y (ac.eval x) (ac.eval y); binOp op t (ac.eval x) (ac.eval y)) v := by
        intro ks hc hq
        subst hq
        simp only [QOp.ev, aeqn, Option.map_eq_some_iff] at hv
        obtain ⟨b, hb, rfl⟩ := hv
        have he := gives_eq (P := P) vx vy hc hb
        obtain ⟨fs, ht, hf, hs, hgd⟩ := hc
        obtain ⟨as, bs, e1, e2, _⟩ := aeq_agg hb
        rw [e1] at vx
        rw [e2] at vy
        obtain ⟨ca, hca, va, oa⟩ := vr_agg_inv vx
        obtain ⟨cb, hcb, vb, ob⟩ := vr_agg_inv vy
        rw [hca, hcb] at he ⊢
        refine ⟨_, ?_, .bool _⟩
        rcases hop with ⟨rfl, rfl⟩ | ⟨rfl, rfl⟩ <;> simp [eqGuard, binOp, he, hgd]
      have eqs : ∀ (c : EqC), EqOk P t c → q = .eq c ng x' y' → (∀ ks, c ≠ .agg ks) → (c = .iface → isNilC x = true ∨ isNilC y = true) → Gives P φ w (do eqGuard op t x y (ac.eval x) (ac.eval y); binOp op t (ac.eval x) (ac.eval y)) v := by
        intro c hc hq hna hi
        subst hq
        simp only [QOp.ev, aeqn, Option.map_eq_some_iff] at hv
        obtain ⟨b, hb, rfl⟩ := hv
        have he := gives_eq (P := P) vx vy hc hb
        have hg : (eqGuard op t x y (ac.eval x) (ac.eval y)).run P w = .ok () w := by
          generalize x'.ev a = ax at vx hb
          generalize y'.ev a = ay at vy hb
          generalize ac.eval x = cx at vx
          generalize ac.eval y = cy at vy
          cases c <;> (try exact absurd rfl (hna _)) <;> cases vx <;> cases vy <;> simp [aeq] at hb
          all_goals first
            | (rcases hop with ⟨rfl, _⟩ | ⟨rfl, _⟩ <;> simp [eqGuard]; done)
            | skip
          · have : isNilC x = true ∨ isNilC y = true := hi rfl
            rcases hop with ⟨rfl, _⟩ | ⟨rfl, _⟩
            all_goals
              rcases this with hx' | hx'
              · rw [nilc_of hx']; simp [eqGuard]
              · rw [nilc_of hx']; cases x <;> simp [eqGuard]
        have hbin : (binOp op t (ac.eval x) (ac.eval y)).run P w = .ok (.bool (if ng then !b else b)) w := by
          generalize x'.ev a = ax at vx hb
          generalize y'.ev a = ay at vy hb
          generalize ac.eval x = cx at vx he
          generalize ac.eval y = cy at vy he
          cases c <;> (try exact absurd rfl (hna _)) <;> cases vx <;> cases vy <;> simp [aeq] at hb
          all_goals first
            | (rcases hop with ⟨rfl, rfl⟩ | ⟨rfl, rfl⟩ <;> simp [binOp, he])
        refine ⟨_, by simp only [Sem.run_bind, hg, Result.andThen_ok, hbin], .bool _⟩
      split at h
      · simp at h; exact plain h.symm
      · simp at h; exact plain h.symm
      · simp at h; exact eqs .bool ‹_› h.symm (by simp) (by simp)
      · split at h <;> simp at h
        exact eqs .ptr ⟨_, _, ‹_›, ‹_›⟩ h.symm (by simp) (by simp)
      · split at h <;> simp at h
        rename_i hn
        exact eqs .iface ⟨_, ‹_›⟩ h.symm (by simp) (fun _ => by simpa using hn)
      · simp at h; exact eqs .slice ⟨_, ‹_›⟩ h.symm (by simp) (by simp)
      · split at h
        · split at h <;> simp at h
          rename_i hq
          exact aggs _ ⟨_, ‹_›, ‹_›, hq.1, hq.2⟩ h.symm
        · cases h
      · simp at h
  · simp at h

end
end Go.Am

namespace Go.Am
open Go Go.RowKit

section
variable {P : Program} {w0 : World} {φ : Phi} {σ : ASt} {w : World} {a : Frame} {ac : Act}

theorem sim_shape (s : Sim w0 φ σ w) {g b sz : Nat} {t : TypeId} {cs : List AVal} (hr : φ.objs[g]? = some (.cell b sz)) (h : σ[g]? = some (.cells t cs)) : w.shape? b = some (t, cs.length) := by
  obtain ⟨r, h1, b', sz', rfl, h2, h3, c, h4, h5, h6, _⟩ := s.ref h
  rw [hr] at h1; cases h1
  simp [World.shape?, h4, h5, h6]

theorem gives_toU (s : Sim w0 φ σ w) {src dst t n : TypeId} {x v : AVal} {cx : Value} (h1 : P.underlying src = some (.pointer t)) (h2 : P.underlying dst = some .unsafePointer) (h3 : szOf P t = some (n + 1)) (hx : VR φ w x cx) (h : atoU x σ = some v) : Gives P φ w (convert src dst cx) v := by
  unfold atoU at h
  split at h
  · rename_i g off
    split at h
    · rename_i t' cs hg
      split at h
      · rename_i hlt
        cases h
        simp only [szOf, Option.map_eq_some_iff] at h3
        obtain ⟨j, h3, hj⟩ := h3
        cases hx with
        | ptr _ _ b sz hr => exact ⟨_, Lib.run_to_unsafe w ⟨b, off, none⟩ h1 h2 h3 (by omega) (sim_shape s hr hg) hlt, .ptr g off b sz hr⟩
      · cases h
    · cases h
  · cases h

theorem gives_fromU (s : Sim w0 φ σ w) {src dst u : TypeId} {i : TypeInfo} {oks : List (Nat × Nat × Nat)} {x v : AVal} {cx : Value} (h1 : P.underlying src = some .unsafePointer) (h2 : P.underlying dst = some (.pointer u)) (h3 : P.info? u = some i)
    (ho : ∀ t n o, (t, n, o) ∈ oks → liesAt P P.depth t (n / P.cellsOf t) o u 1 = true) (hx : VR φ w x cx) (h : afromU oks x σ = some v) : Gives P φ w (convert src dst cx) v := by
  unfold afromU at h
  split at h
  · rename_i g off
    split at h
    · rename_i t' cs hg
      split at h
      · rename_i hm
        cases h
        cases hx with
        | ptr _ _ b sz hr => exact ⟨_, Lib.run_from_unsafe w ⟨b, off, none⟩ h1 h2 h3 (sim_shape s hr hg) (ho _ _ _ (by simpa using hm)), .ptr g off b sz hr⟩
      · cases h
    · cases h
  · cases h

theorem tr_conv (sm : Sim w0 φ σ w) {s d : TypeId} {x : Operand} {x' : IOpd} {q : QOp} {v : AVal} (fr : FR φ w a ac.tmps) (hx : trOpd x = some x') (h : trConv P s d x' = some q) (hv : q.ev a σ = some v) : Gives P φ w (convert s d (ac.eval x)) v := by
  have vx := opd_ok fr hx
  unfold trConv at h
  split at h
  · rename_i k1 k2 h1 h2
    cases h
    exact gives_conv h1 h2 vx hv
  · rename_i h1 h2
    cases h
    exact gives_same h1 h2 vx hv
  · rename_i e h1 h2
    split at h <;> simp at h
    rename_i h3
    subst h
    exact gives_bstr h1 h2 h3 vx hv
  · rename_i t h1 h2
    split at h <;> simp at h
    rename_i n h3
    subst h
    exact gives_toU sm h1 h2 h3 vx hv
  · rename_i u h1 h2
    split at h <;> simp at h
    rename_i i h3
    subst h
    exact gives_fromU sm h1 h2 h3 (fun t n o hm => (List.mem_filter.1 hm).2) vx hv
  · cases h


theorem vr_func {fn : Fn} {f c : List AVal} {f' c' : List Value} (h1 : VRs φ w f f') (h2 : VRs φ w c c') : VR φ w (.func fn f c) (.func fn f'.toArray c'.toArray) := .func _ _ _ _ _ h1.1 h2.1 h1.2 h2.2

theorem map_arr {α β : Type} (g : α → β) (xs : Array α) : (xs.toList.map g).toArray = xs.map g := by apply Array.ext'; simp

theorem bind_und {ats : Array TypeId} {i : Nat} {d : TypeDesc} (h : (ats[i]?).bind P.underlying = some d) : ∃ t, ats[i]? = some t ∧ P.underlying t = some d := by
  cases hi : ats[i]? with
  | none => simp [hi] at h
  | some t => simp [hi] at h; exact ⟨t, rfl, h⟩

theorem args_one (fr : FR φ w a ac.tmps) {args : Array Operand} {x : IOpd} (h : trOpds args = some [x]) : ∃ cx, args.map ac.eval = #[cx] ∧ VR φ w (x.ev a) cx := by
  have := opds_ok fr h
  obtain ⟨v, vs, h1, h2, h3⟩ := this.inv_cons
  have h4 := h3.1
  simp at h4
  cases vs with
  | cons => simp at h4
  | nil => exact ⟨v, by rw [← map_arr, h1], h2⟩

theorem args_two (fr : FR φ w a ac.tmps) {args : Array Operand} {x y : IOpd} (h : trOpds args = some [x, y]) : ∃ cx cy, args.map ac.eval = #[cx, cy] ∧ VR φ w (x.ev a) cx ∧ VR φ w (y.ev a) cy := by
  have := opds_ok fr h
  obtain ⟨v, vs, h1, h2, h3⟩ := this.inv_cons
  obtain ⟨u, us, rfl, h5, h6⟩ := h3.inv_cons
  have h4 := h6.1
  simp at h4
  cases us with
  | cons => simp at h4
  | nil => exact ⟨v, u, by rw [← map_arr, h1], h2, h5⟩

theorem builtin_len {c : LC} {d : TypeDesc} {x : IOpd} {ats : Array TypeId} {args : Array Operand} {v : AVal} (s : Sim w0 φ σ w) (fr : FR φ w a ac.tmps) (ht : (ats[0]?).bind P.underlying = some d) (hd : ∀ t, P.underlying t = some d → LenOk P t c)
    (hx : trOpds args = some [x]) (hv : (QOp.len c x).ev a σ = some v) (T : TypeId) : Gives P φ w (Builtin.len_ ats T (args.map ac.eval)) v := by
  obtain ⟨t, h1, h2⟩ := bind_und ht
  obtain ⟨cx, h3, h4⟩ := args_one fr hx
  rw [h3]
  exact gives_len s h1 (by simp) (hd t h2) h4 hv T

theorem noEsc_run {f : FuncId} {fn : Func} {args : Array Operand} {ats : Array TypeId} {dst : Option Tmp} {type : TypeId} {pos : String} {after : Array Edge} {guard : Option (Nat × Bool)} {cx : Value} (hf : P.funcs[f]? = some fn) (hn : fn.name = "internal/abi.NoEscape") (hb : fn.body = none) (ho : fn.origin = "")
    (ha : args.map ac.eval = #[cx]) : (execOp ac.eval ⟨dst, .call ⟨.value (.func f), args, ats⟩, type, pos, after, guard⟩).run P w = .ok (.value cx) w := by
  have h1 : Extern.findNext fn = none := by
    simp only [Extern.findNext, hn, ho]
    kernel_rfl
  have h2 : Extern.find fn = some Extern.AbiNoEscape.same := by
    simp only [Extern.find, hn, ho]
    kernel_rfl
  simp only [execOp, resolve, Act.eval, Deferred.ofValue, Sem.run_bind, Sem.run_pure, Result.andThen_ok, invoke]
  have ha' : (#[] ++ Array.map ac.eval args ++ #[] : Array Value) = #[cx] := by rw [ha]; rfl
  rw [ha', run_callFunc_extern hf (by rw [hn]; decide) (by simp [hb]) h1 h2]
  rfl

/-- THE QUIET OPERATIONS. -/
theorem q_ok (s : Sim w0 φ σ w) (fr : FR φ w a ac.tmps) {o : Oper} {q : QOp} {v : AVal} (h : trOp P o = some (.q q)) (hnf : q.isFmt = false) (hv : q.ev a σ = some v) : QGives P φ w (execOp ac.eval o) v := by
  obtain ⟨dst, op, type, pos, after, guard⟩ := o
  cases op <;> simp only [trOp] at h
  case move x =>
    simp at h
    obtain ⟨y, hy, rfl⟩ := h
    cases hv
    exact ⟨ac.eval x, rfl, opd_ok fr hy⟩
  case assign x => simp at h
  case pick c x y =>
    split at h <;> simp at h
    subst h
    exact qg (gives_pick (opd_ok fr ‹_›) (opd_ok fr ‹_›) (opd_ok fr ‹_›) hv) (by simp [execOp])
  case alloc t => simp at h
  case box t x => simp at h
  case build t ps =>
    split at h
    · split at h
      · simp at h
        obtain ⟨l, hl, rfl⟩ := h
        simp only [QOp.ev, Option.map_eq_some_iff] at hv
        obtain ⟨cs, hcs, rfl⟩ := hv
        exact qg (gives_buildS fr ‹_› ‹_› ‹_› hl hcs) rfl
      · cases h
    · split at h
      · simp at h
        obtain ⟨l, hl, rfl⟩ := h
        simp only [QOp.ev, Option.map_eq_some_iff] at hv
        obtain ⟨cs, hcs, rfl⟩ := hv
        exact qg (gives_buildA fr ‹_› ‹_› ‹_› hl hcs) rfl
      · cases h
    · cases h
  case buildSlice t n ps =>
    split at h
    · split at h
      · split at h
        · simp at h
        · cases h
      · cases h
    · cases h
  case insert t m k v =>
    split at h
    · split at h <;> simp at h
    · cases h
  case load t p =>
    split at h <;> simp at h
    subst h
    obtain ⟨b, o, cv, h1, h2, h3⟩ := aload_ok s (opd_ok fr ‹_›) ‹_› hv
    exact qg (x := Instr.loadAt t (ac.eval p)) ⟨cv, by simp [Instr.loadAt, h1, Instr.sureAddr, h2], h3⟩ rfl
  case store t p x => split at h <;> simp at h
  case ready g => cases h
  case waits g => cases h
  case nilCheck x =>
    simp at h
    obtain ⟨y, hy, rfl⟩ := h
    obtain ⟨p, h1, h2⟩ := gives_nilc (opd_ok fr hy) hv
    exact ⟨ac.eval x, by simp [execOp, h1], h2⟩
  case binOp op t x y u =>
    simp at h
    exact qg (tr_bin fr h hv) rfl
  case unOp op t x =>
    simp at h
    obtain ⟨y, hy, rfl⟩ := h
    exact qg (gives_un (opd_ok fr hy) hv) rfl
  case convert st d x =>
    split at h
    · simp at h
      exact qg (tr_conv s fr ‹_› h hv) rfl
    · cases h
  case sliceToArrayPointer => cases h
  case makeInterface t x =>
    split at h
    · cases h
    · cases h
      cases hv
      rename_i d y hd hy _
      refine qg (x := Instr.makeInterface t (ac.eval x)) ⟨.iface t (ac.eval x), ?_, .iface t _ _ (opd_ok fr ‹_›)⟩ rfl
      cases d <;> first | (simp [Instr.makeInterface, r_und ‹P.underlying t = _›]; done) | (exact absurd rfl (hd _))
    · cases h
  case makeFunc fn f c =>
    split at h <;> simp at h
    subst h
    cases hv
    rename_i f' c' hf hc
    have h1 := opds_ok fr hf
    have h2 := opds_ok fr hc
    refine qg (x := Instr.makeFunc fn (f.map ac.eval) (c.map ac.eval)) ⟨_, rfl, ?_⟩ rfl
    have := vr_func (fn := fn) h1 h2
    rwa [map_arr, map_arr] at this
  case makeMap t r => cases r <;> simp at h
  case makeChan => cases h
  case makeSlice t l c =>
    split at h
    · split at h
      · split at h <;> simp at h
      · cases h
    · split at h
      · split at h <;> simp at h
      · cases h
    · cases h
  case slice t x lo hi mx =>
    cases mx with
    | some m => cases h
    | none =>
      simp only at h
      split at h
      · cases h
        exact qg (gives_slStr ‹_› (opd_ok fr ‹_›) (optO fr ‹_›) (optO fr ‹_›) hv) rfl
      · split at h <;> simp at h
        subst h
        exact qg (gives_slList ‹_› ‹_› (opd_ok fr ‹_›) (optO fr ‹_›) (optO fr ‹_›) hv) rfl
      · split at h <;> simp at h
        subst h
        rename_i hlo hhi _ _ _
        cases lo <;> simp [trO] at hlo
        cases hi <;> simp [trO] at hhi
        exact qg (gives_slArr s ‹_› ‹_› (opd_ok fr ‹_›) hv) rfl
      · cases h
  case fieldAddr t x f =>
    split at h
    · split at h <;> simp at h
      subst h
      exact qg (gives_addr ‹_› ‹_› (opd_ok fr ‹_›) hv) rfl
    · cases h
  case field t x f =>
    split at h
    · split at h
      · simp at h
        obtain ⟨n, hn, rfl⟩ := h
        exact qg (gives_field ‹_› ‹_› hn (opd_ok fr ‹_›) hv) rfl
      · cases h
    · cases h
  case indexAddr t x i =>
    split at h
    · simp at h
      obtain ⟨es, hs, rfl⟩ := h
      exact qg (gives_ixArr ‹_› hs (opd_ok fr ‹_›) (opd_ok fr ‹_›) hv) rfl
    · split at h <;> simp at h
      subst h
      exact qg (gives_ixSl ‹_› ‹_› (opd_ok fr ‹_›) (opd_ok fr ‹_›) hv) rfl
    · cases h
  case index t x i =>
    split at h
    · split at h <;> simp at h
      subst h
      exact qg (gives_ixVal ‹_› ‹_› ‹_› (opd_ok fr ‹_›) (opd_ok fr ‹_›) hv) rfl
    · cases h
      exact qg (gives_ixStr ‹_› (opd_ok fr ‹_›) (opd_ok fr ‹_›) hv) rfl
    · cases h
  case lookup t m k ok =>
    split at h
    · split at h <;> simp at h
      subst h
      exact qg (gives_lookup s ‹_› ‹_› ‹_› (opd_ok fr ‹_›) (opd_ok fr ‹_›) hv) rfl
    · cases h
  case mapUpdate t m k v =>
    split at h
    · split at h <;> simp at h
    · cases h
  case mapEntry => cases h
  case entryStore => cases h
  case range => cases h
  case next => cases h
  case entry => cases h
  case typeAssert x xt t ok =>
    cases ok with
    | false =>
      simp only at h
      split at h
      · cases h
      · cases h
        refine qg (gives_assert1 (by assumption) ?_ (opd_ok fr (by assumption)) hv) rfl
        intro ms e
        simp_all
      · cases h
    | true =>
      simp only at h
      split at h
      · cases h
      · cases h
        refine qg (gives_assert (by assumption) ?_ (by assumption) (opd_ok fr (by assumption)) hv) rfl
        intro ms e
        simp_all
      · cases h
  case extract t i =>
    simp at h
    obtain ⟨y, hy, rfl⟩ := h
    exact qg (gives_extr (opd_ok fr hy) hv) rfl
  case call c =>
    obtain ⟨callee, args, ats⟩ := c
    cases callee with
    | value f =>
      cases f <;> simp only [] at h
      · simp at h
      · cases h
      · cases h
      · split at h
        · split at h
          · obtain ⟨x, _, e⟩ := trFmt_q h
            cases e
            cases hnf
          · split at h
            · simp at h
            · rename_i fn as hf has _ _
              obtain ⟨x, e1, e2, e3, e4, e5⟩ := trExt_q h
              cases e2
              rw [e1] at has
              obtain ⟨cx, k1, k2⟩ := args_one fr has
              cases hv
              exact ⟨cx, noEsc_run hf e3 e4 e5 k1, k2⟩
        · cases h
    | invoke r m => cases h
    | builtin b =>
      cases b <;> simp only [] at h
      case len =>
        split at h
        · rename_i x ht hx
          cases h
          exact qg (builtin_len s fr (c := .str) ht (fun _ h => h) hx hv _) rfl
        · rename_i e x ht hx
          cases h
          exact qg (builtin_len s fr (c := .slice) ht (fun _ h => ⟨_, h⟩) hx hv _) rfl
        · rename_i k e x ht hx
          cases h
          exact qg (builtin_len s fr (c := .map) ht (fun _ h => ⟨_, _, h⟩) hx hv _) rfl
        · cases h
      case max =>
        split at h
        · rename_i x y hx
          cases h
          obtain ⟨cx, cy, h3, h4, h5⟩ := args_two fr hx
          exact qg (x := Builtin.max_ ats type (args.map ac.eval)) (gives_max (by rw [h3]) h4 h5 hv _) rfl
        · cases h
      case unsafeSliceData =>
        split at h
        · rename_i x hx
          cases h
          obtain ⟨cx, h3, h4⟩ := args_one fr hx
          exact qg (x := Builtin.unsafeSliceData_ ats type (args.map ac.eval)) (gives_sdata h3 h4 hv) rfl
        · cases h
      case append =>
        split at h
        · split at h
          · split at h <;> simp at h
          · split at h <;> simp at h
          · cases h
        · cases h
      case unsafeString =>
        split at h
        · split at h <;> simp at h
        · cases h
      case copy =>
        split at h
        · split at h <;> simp at h
        · cases h
      all_goals cases h
  case go => cases h
  case defer => cases h
  case panic x => simp at h
  case send => cases h
  case recv => cases h
  case select => cases h

end
end Go.Am

