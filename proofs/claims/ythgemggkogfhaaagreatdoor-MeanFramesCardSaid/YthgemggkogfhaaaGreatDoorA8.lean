/-
  Calls are sound; regions. Conditions: none.
-/
import Derived.Test.YthgemggkogfhaaaGreatDoorA7
import Derived.LoopN
import Derived.Scope
import Derived.Orders
namespace Go.Am
open Go Go.RowKit

/-- A function that may be called. -/
def Callable (P : Program) (f : FuncId) : Prop := ∃ fn, P.funcs[f]? = some fn ∧ fn.name ≠ "runtime.NumGoroutine" ∧ fn.body.isSome = true

/-- What a call comes to. -/
def CPost (w0 : World) (φ : Phi) (w : World) : R AVal → Ending → World → Prop
  | .ok v σ', e, w' => ∃ cv φ', e = .returned cv ∧ VR φ' w' v cv ∧ Ext φ w φ' w' ∧ Sim w0 φ' σ' w'
  | .panic v σ', e, w' => ∃ cv φ', e = .panicked [{ v := cv, recovered := false }] ∧ VR φ' w' v cv ∧ Ext φ w φ' w' ∧ Sim w0 φ' σ' w'
  | .bad, _, _ => False

/-- Numbers in decimal digits, as the model's library makes them. -/
def FmtOk (P : Program) (w0 : World) : Prop := ∀ f fn, P.funcs[f]? = some fn → fn.name = "strconv.FormatInt" → fn.body.isSome = true ∧ ∀ n : Int, -9223372036854775808 ≤ n → n ≤ 9223372036854775807 → ∀ w, Below w0.heap.size w0 w →
  Calls P f #[.int .i64 n, .int .i64 10] w fun e w' => e = .returned (.string ⟨(Lib.itoa n).toArray⟩) ∧ ∃ k os, w' = Sort.grow (w.drewN k) os

/-- What is reckoned of calls is so. -/
def CallOk (P : Program) (w0 : World) (call : FuncId → List AVal → M AVal) : Prop :=
  FmtOk P w0 ∧ ∀ f args σ, call f args σ ≠ .bad → Callable P f ∧ ∀ φ w cargs, Sim w0 φ σ w → VRs φ w args cargs → Calls P f cargs.toArray w (CPost w0 φ w (call f args σ))

def XOk (φ : Phi) (w : World) : AExit → Exit → Prop
  | .norm, .normal => True
  | .ret, .ret => True
  | .exit i, .exit j => i = j
  | .panic v, .panic chain => ∃ cv, chain = [{ v := cv, recovered := false }] ∧ VR φ w v cv
  | _, _ => False

/-- What stands behind a region, from a state (φ1, w1) on. -/
def OX (w0 : World) (φ1 : Phi) (w1 : World) (nt : Nat) (ds : List Deferred) (e : AExit) (a : Frame) (σ : ASt) (e' : Exit) (ac : Act) (w : World) : Prop :=
  ∃ φ, Ext φ1 w1 φ w ∧ Sim w0 φ σ w ∧ FR φ w a ac.tmps ∧ ac.tmps.size = nt ∧ ac.defers = ds ∧ XOk φ w e e'

def slotOf (ops : Array Oper) (j : Nat) : Option Nat := (ops[j]?).bind (·.dst)

def dstOk (nt : Nat) : Option Nat → Bool
  | some d => decide (d < nt)
  | none => true

def trGuard (ops : Array Oper) : Option (Nat × Bool) → Option (Option (Nat × Bool))
  | none => some none
  | some (j, want) => (slotOf ops j).map fun t => some (t, want)

def Act0.up (fl : Option Nat) (pend : List (Nat × QOp)) : Act0 → Act1
  | .e x => Act1.e (x.fl fl) pend
  | .q x => Act1.q x

/-- An operation with its place and its condition. -/
def trOper (P : Program) (nt : Nat) (ops : Array Oper) (fl : Option Nat) (o : Oper) (pend : List (Nat × QOp)) : Option IOper :=
  match trOp P o, trGuard ops o.guard with
  | some act, some g => if dstOk nt o.dst = true then some ⟨o.dst, act.up fl pend, g⟩ else none
  | _, _ => none

section
variable {P : Program} {w0 : World} {φ : Phi} {σ : ASt} {w : World} {a : Frame} {ac : Act}

theorem fr_put (fr : FR φ w a ac.tmps) {dst : Option Nat} {v : AVal} {cv : Value} (hv : VR φ w v cv) (hd : ∀ d, dst = some d → d < ac.tmps.size) : FR φ w (fput a dst v) (ac.put dst cv).tmps := by
  cases dst with
  | none => exact fr
  | some d =>
    intro t
    simp only [fput, fget, Act.put]
    have := hd d rfl
    split
    · rename_i e
      subst e
      simp [Array.getD, this]; exact hv
    · rename_i e
      have h := fr t
      simp only [Array.getD_eq_getD_getElem?] at h ⊢
      rw [Array.getElem?_setIfInBounds_ne e]
      exact h

theorem put_size (dst : Option Nat) (cv : Value) : (ac.put dst cv).tmps.size = ac.tmps.size ∧ (ac.put dst cv).defers = ac.defers := by
  cases dst <;> simp [Act.put]

theorem fr_dup (fr : FR φ w a ac.tmps) {t : Nat} {v : AVal} (h : fget a t = v) : FR φ w ((t, v) :: a) ac.tmps := by
  intro t'
  simp only [fget]
  split
  · rename_i e; subst e; rw [← h]; exact fr t
  · exact fr t'

theorem yield_ok (fr : FR φ w a ac.tmps) {ops : Array Oper} {j t : Nat} {b : Bool} (hs : slotOf ops j = some t) (hg : fget a t = .bool b) (ht : t < ac.tmps.size) : yielded ops ac.tmps j = some b := by
  have h := fr t
  rw [hg] at h
  unfold yielded slotOf at *
  rw [hs]
  simp only [Option.bind_some]
  rw [Array.getD_eq_getD_getElem?] at h
  cases hx : ac.tmps[t]? with
  | none => rw [Array.getElem?_eq_getElem ht] at hx; cases hx
  | some x => rw [hx] at h; simp only [Option.getD_some] at h; cases h; rfl


/-- Which operations are calls, and which panic. -/
def CallShape (P : Program) (o : Oper) : EOp → Prop
  | .call f as => ∃ c fn, o.op = .call c ∧ c.callee = .value (.func f) ∧ P.funcs[f]? = some fn ∧ fn.name ≠ "runtime.NumGoroutine" ∧ fn.body.isSome = true ∧ trOpds c.args = some as
  | .callv x as => ∃ c t, o.op = .call c ∧ c.callee = .value (.tmp t) ∧ x = .t t ∧ trOpds c.args = some as
  | .panic x => ∃ y, o.op = .panic y ∧ trOpd y = some x
  | .res _ | .fillA .. | .fillS .. | .fillM _ => False
  | _ => True

theorem callShape {o : Oper} {e : EOp} (h : trOp P o = some (.e e)) : CallShape P o e := by
  obtain ⟨dst, op, type, pos, after, guard⟩ := o
  cases op
  case call c =>
    obtain ⟨callee, args, ats⟩ := c
    cases callee
    case value x =>
      cases x
      case func f =>
        simp only [trOp] at h
        split at h
        · split at h
          · obtain ⟨x, _, e⟩ := trFmt_q h
            cases e
          · split at h
            · rename_i hn
              simp at h; subst h
              exact ⟨_, _, rfl, rfl, ‹_›, hn.1, hn.2, ‹_›⟩
            · obtain ⟨_, _, e, _⟩ := trExt_q h
              cases e
        · cases h
      case tmp t =>
        simp only [trOp] at h
        simp at h
        obtain ⟨as, h1, rfl⟩ := h
        exact ⟨_, t, rfl, rfl, rfl, h1⟩
      all_goals simp [trOp] at h
    case builtin b =>
      cases b <;> simp only [trOp] at h
      all_goals (repeat' split at h)
      all_goals (first | (cases h; done) | (simp at h; done) | (simp at h; subst h; trivial))
    case invoke => simp [trOp] at h
  case panic y =>
    simp [trOp] at h
    obtain ⟨x, h1, rfl⟩ := h
    exact ⟨_, rfl, h1⟩
  all_goals simp only [trOp] at h
  all_goals (repeat' split at h)
  all_goals (first | (cases h; done) | (simp at h; done) | (simp at h; subst h; trivial) | (obtain ⟨_, _, e⟩ := trFmt_q h; cases e; done) | (obtain ⟨_, _, e, _⟩ := trExt_q h; cases e; done) | (simp at h; obtain ⟨y, hy, rfl⟩ := h; trivial))

theorem vr_iface {t : TypeId} {v : AVal} {c : Value} (h : VR φ w (.iface t v) c) : ∃ cv, c = .iface t cv ∧ VR φ w v cv := by
  cases h; exact ⟨_, rfl, ‹_›⟩

theorem vr_func_inv {f : Fn} {first cap : List AVal} {c : Value} (h : VR φ w (.func f first cap) c) : ∃ first' cap', c = .func f first'.toArray cap'.toArray ∧ VRs φ w first first' ∧ VRs φ w cap cap' := by
  cases h
  exact ⟨_, _, rfl, ⟨‹_›, ‹_›⟩, ⟨‹_›, ‹_›⟩⟩

theorem run_callFunc {f : FuncId} {fn : Func} (h1 : P.funcs[f]? = some fn) (h2 : fn.name ≠ "runtime.NumGoroutine") (h3 : fn.body.isSome = true) (args : Array Value) (w : World) :
    (callFunc f args).run P w = .ok (.enter f args) w := by
  have h4 : fn.body.isNone = false := by cases hb : fn.body <;> simp_all
  have h5 : (fn.name == "runtime.NumGoroutine") = false := by simpa using h2
  unfold callFunc
  simp only [Sem.run_bind, run_program, Result.andThen_ok, h1, h4, h5, Bool.false_eq_true, if_false, Sem.run_pure]

theorem eff_ok0 {call : FuncId → List AVal → M AVal} (hc : CallOk P w0 call) (s : Sim w0 φ σ w) (fr : FR φ w a ac.tmps) {o : Oper} {e : EOp} (ha : trOp P o = some (.e e)) {next : Act → World → Prop} {Q : Exit → Act → World → Prop}
    (he : ∀ v σ', e.ev call a σ = .ok v σ' → ∀ cv φ' w', VR φ' w' v cv → Ext φ w φ' w' → Sim w0 φ' σ' w' → next (ac.put o.dst cv) w')
    (hp : ∀ v σ', e.ev call a σ = .panic v σ' → ∀ cv φ' w', VR φ' w' v cv → Ext φ w φ' w' → Sim w0 φ' σ' w' → Q (.panic [{ v := cv, recovered := false }]) ac w')
    (he0 : e.ev call a σ ≠ .bad) : o.wp P ac w next Q := by
  have hcall : ∀ (f : FuncId) (args : List AVal) (cargs : List Value), e.ev call a σ = call f args σ → VRs φ w args cargs → (Callable P f → (execOp ac.eval o).run P w = .ok (.enter f cargs.toArray) w) → o.wp P ac w next Q := by
    intro f args cargs h1 h2 h3
    obtain ⟨k1, k2⟩ := hc.2 f args σ (h1 ▸ he0)
    unfold Oper.wp
    rw [h3 k1]
    simp only [Oper.upon]
    refine (k2 φ w cargs s h2).mono fun en w' h => ?_
    rw [← h1] at h
    cases hr : e.ev call a σ with
    | ok v σ' => rw [hr] at h; obtain ⟨cv, φ', rfl, q1, q2, q3⟩ := h; exact he v σ' hr cv φ' w' q1 q2 q3
    | panic v σ' => rw [hr] at h; obtain ⟨cv, φ', rfl, q1, q2, q3⟩ := h; exact hp v σ' hr cv φ' w' q1 q2 q3
    | bad => exact absurd hr he0
  cases hpl : e.plain with
  | true =>
    cases hr : e.ev call a σ with
    | ok v σ' =>
      obtain ⟨φ', w', h1, h2, h3⟩ := e_ok s fr ha hpl hr
      unfold Oper.wp
      rcases h1 with ⟨cv, h1, h4⟩ | ⟨h1, rfl⟩
      · rw [h1]; exact he v σ' hr cv φ' w' h4 h2 h3
      · rw [h1]; exact he _ σ' hr undef φ' w' (.undef _) h2 h3
    | panic v σ' =>
      exfalso
      cases e <;> simp [EOp.plain] at hpl <;> simp only [EOp.ev] at hr
      all_goals first
        | (cases hr; done)
        | (simp only [abox, abslice, amkslice, astore, amapupd, aappend, acopy, austr, put] at hr; (repeat' split at hr) <;> (first | (cases hr; done) | skip))
    | bad => exact absurd hr he0
  | false =>
    have sh := callShape ha
    cases e <;> simp [EOp.plain] at hpl <;> try exact sh.elim
    case call f args =>
      obtain ⟨c, fn, q1, q2, q3, q4, q5, q6⟩ := sh
      refine hcall f _ (c.args.toList.map ac.eval) rfl (opds_ok fr q6) fun _ => ?_
      simp only [execOp, q1, resolve, q2, Act.eval, Deferred.ofValue, Sem.run_bind, Sem.run_pure, Result.andThen_ok, invoke]
      rw [run_callFunc q3 q4 q5, map_arr]
      simp
    case callv x args =>
      obtain ⟨c, t, q1, q2, rfl, q6⟩ := sh
      have hx := fr t
      simp only [EOp.ev, IOpd.ev] at he0 he hp hcall
      unfold acallv at he0 he hp hcall
      cases hv : fget a t with
      | func fn first cap =>
        rw [hv] at hx he0
        cases fn with
        | func f =>
          simp only [hv] at he hp hcall
          obtain ⟨first', cap', h1, h3, h4⟩ := vr_func_inv hx
          refine hcall f _ (first' ++ c.args.toList.map ac.eval ++ cap') rfl ((h3.append (opds_ok fr q6)).append h4) fun k => ?_
          obtain ⟨fn, k1, k2, k3⟩ := k
          simp only [execOp, q1, resolve, q2, Act.eval, h1, Deferred.ofValue, Sem.run_bind, Sem.run_pure, Result.andThen_ok, invoke]
          rw [run_callFunc k1 k2 k3]
          rw [← map_arr]
          simp
        | _ => exact absurd rfl he0
      | _ => rw [hv] at he0; exact absurd rfl he0
    case panic x =>
      obtain ⟨y, q1, q2⟩ := sh
      have hx := opd_ok fr q2
      simp only [EOp.ev] at he0 he hp
      unfold apanic at he0 he hp
      cases hv : x.ev a with
      | iface t v =>
        rw [hv] at hx
        obtain ⟨cv, hc1, hc2⟩ := vr_iface hx
        unfold Oper.wp
        have : (execOp ac.eval o).run P w = .halt (.panic (.iface t cv)) w := by
          simp [execOp, q1, hc1, Instr.panic, goPanic, Sem.run]
        rw [this]
        exact hp (.iface t v) σ (by rw [hv]) _ φ w (.iface t v cv hc2) (Ext.refl φ w) s
      | _ => rw [hv] at he0; exact absurd rfl he0

/-- An operation that turns the state, a call among them. -/
theorem eff_ok {call : FuncId → List AVal → M AVal} (hc : CallOk P w0 call) (s : Sim w0 φ σ w) (fr : FR φ w a ac.tmps) {o : Oper} {e : EOp} (fl : Option Nat) (ha : trOp P o = some (.e e)) {next : Act → World → Prop} {Q : Exit → Act → World → Prop}
    (he : ∀ v σ', (e.fl fl).ev call a σ = .ok v σ' → ∀ cv φ' w', VR φ' w' v cv → Ext φ w φ' w' → Sim w0 φ' σ' w' → next (ac.put o.dst cv) w')
    (hp : ∀ v σ', (e.fl fl).ev call a σ = .panic v σ' → ∀ cv φ' w', VR φ' w' v cv → Ext φ w φ' w' → Sim w0 φ' σ' w' → Q (.panic [{ v := cv, recovered := false }]) ac w')
    (he0 : (e.fl fl).ev call a σ ≠ .bad) : o.wp P ac w next Q := by
  by_cases hf : e.fl fl = e
  · rw [hf] at he hp he0
    exact eff_ok0 hc s fr ha he hp he0
  · rcases fl_plain (e := e) (fl := fl) with h | h
    · exact absurd h hf
    · rcases h call a σ with h | ⟨v, σ', h⟩
      · exact absurd h he0
      · obtain ⟨φ', w', h1, h2, h3⟩ := fill_ok s fr ha hf h
        unfold Oper.wp
        rcases h1 with ⟨cv, h1, h4⟩ | ⟨h1, rfl⟩
        · rw [h1]; exact he v σ' h cv φ' w' h4 h2 h3
        · rw [h1]; exact he _ σ' h undef φ' w' (.undef _) h2 h3

theorem fmtShape {o : Oper} {x : IOpd} (h : trOp P o = some (.q (.fmt x))) : ∃ c f fn, o.op = .call c ∧ c.callee = .value (.func f) ∧ P.funcs[f]? = some fn ∧ fn.name = "strconv.FormatInt" ∧ trOpds c.args = some [x, .v (.int .i64 10)] := by
  obtain ⟨dst, op, type, pos, after, guard⟩ := o
  cases op
  case call c =>
    obtain ⟨callee, args, ats⟩ := c
    cases callee
    case value y =>
      cases y
      case func f =>
        simp only [trOp] at h
        split at h
        · rename_i fn as h1 h2
          split at h
          · rename_i hn
            obtain ⟨y, e1, e2⟩ := trFmt_q h
            cases e2
            exact ⟨_, f, fn, rfl, rfl, h1, hn, by rw [h2, e1]⟩
          · split at h
            · simp at h
            · obtain ⟨_, _, e, _⟩ := trExt_q h
              cases e
        · cases h
      case tmp t => simp [trOp] at h
      all_goals simp [trOp] at h
    case builtin b =>
      cases b <;> simp only [trOp] at h
      all_goals (repeat' split at h)
      all_goals (first | (cases h; done) | (simp at h; done))
    case invoke => simp [trOp] at h
  case binOp op t y z u =>
    simp only [trOp, Option.map_eq_some_iff] at h
    obtain ⟨q, h1, h2⟩ := h
    cases h2
    unfold trBin at h1
    (repeat' split at h1) <;> simp at h1
  case convert s d y =>
    simp only [trOp] at h
    split at h
    · simp only [Option.map_eq_some_iff] at h
      obtain ⟨q, h1, h2⟩ := h
      cases h2
      unfold trConv at h1
      (repeat' split at h1) <;> simp at h1
    · cases h
  all_goals simp only [trOp] at h
  all_goals (repeat' split at h)
  all_goals (first | contradiction | (cases h; done) | (simp at h; done) | (obtain ⟨_, _, e, _⟩ := trExt_q h; cases e; done))

/-- A quiet operation. -/
theorem qt_ok {call : FuncId → List AVal → M AVal} (hc : CallOk P w0 call) (s : Sim w0 φ σ w) (fr : FR φ w a ac.tmps) {o : Oper} {q : QOp} {v : AVal} (h : trOp P o = some (.q q)) (hv : q.ev a σ = some v) {next : Act → World → Prop} {Q : Exit → Act → World → Prop}
    (hk : ∀ cv w', VR φ w' v cv → Ext φ w φ w' → Sim w0 φ σ w' → next (ac.put o.dst cv) w') : o.wp P ac w next Q := by
  by_cases hf : q.isFmt = false
  · obtain ⟨cv, h1, h2⟩ := q_ok s fr h hf hv
    unfold Oper.wp
    rw [h1]
    exact hk cv w h2 (.refl φ w) s
  · cases q <;> simp [QOp.isFmt] at hf
    rename_i x
    obtain ⟨c, f, fn, q1, q2, q3, q4, q5⟩ := fmtShape h
    obtain ⟨hb, hcall⟩ := hc.1 f fn q3 q4
    simp only [QOp.ev] at hv
    unfold afmt at hv
    split at hv
    · rename_i n hx
      split at hv
      · rename_i hn
        cases hv
        obtain ⟨cx, cy, e1, e2, e3⟩ := args_two fr q5
        rw [hx] at e2
        cases e2
        cases e3
        have hrun : (execOp ac.eval o).run P w = .ok (.enter f #[.int .i64 n, .int .i64 10]) w := by
          simp only [execOp, q1, resolve, q2, Act.eval, Deferred.ofValue, Sem.run_bind, Sem.run_pure, Result.andThen_ok, invoke]
          rw [run_callFunc q3 (by rw [q4]; decide) hb]
          rw [e1]; rfl
        unfold Oper.wp
        rw [hrun]
        simp only [Oper.upon]
        refine (hcall n hn.1 hn.2 w s.frame).mono fun e w' h => ?_
        obtain ⟨rfl, k, os, rfl⟩ := h
        obtain ⟨g1, g2⟩ := s.grow k os
        exact hk _ _ (.str _) g1 g2
      · cases hv
    · cases hv

end
end Go.Am

namespace Go.Am
open Go Go.RowKit

/-- The operands of a quiet operation. -/
def QOp.opds : QOp → List IOpd
  | .mov x | .nilc x | .un _ x | .conv _ x | .same x | .bstr x | .iface _ x | .addr _ x | .field _ _ x | .assert _ _ x | .assert1 _ x | .extr _ x | .len _ x | .sdata x | .load _ x => [x]
  | .pick c x y => [c, x, y]
  | .build _ parts => parts.map (·.2.2)
  | .bin _ x y | .eq _ _ x y | .ixArr _ _ x y | .ixSl _ x y | .ixVal _ _ x y | .ixStr x y | .lookup _ _ _ x y | .maxi x y => [x, y]
  | .fmt x | .toU x | .fromU _ x => [x]
  | .func _ first cap => first ++ cap
  | .slStr x lo hi | .slList _ x lo hi | .slArr _ _ x lo hi => x :: (lo.toList ++ hi.toList)

def QOp.reads : QOp → Bool
  | .load .. | .slArr .. | .lookup .. | .len .. | .toU _ | .fromU .. => true
  | _ => false

def EOp.opds : EOp → List IOpd
  | .alloc .. | .mkmap | .res _ | .fillA .. | .fillM _ => []
  | .box _ x | .mkslice _ _ _ x | .panic x | .set x | .fillS _ _ _ _ x => [x]
  | .bslice _ _ _ _ parts => parts.map (·.2.2)
  | .store _ p x | .append _ _ _ p x | .copy _ p x | .ustr _ p x => [p, x]
  | .mapupd _ m k x => [m, k, x]
  | .call _ args => args
  | .callv x args => x :: args

theorem parts_congr {a b : Frame} : ∀ (parts : List (Nat × Nat × IOpd)), (∀ x ∈ parts.map (·.2.2), x.ev a = x.ev b) → (parts.map fun (o, n, x) => (o, n, x.ev a)) = parts.map fun (o, n, x) => (o, n, x.ev b)
  | [], _ => rfl
  | (o, n, x) :: l, h => by
    simp only [List.map_cons]
    rw [parts_congr l fun x hx => h x (by simp at hx ⊢; exact .inr hx), h x (by simp)]

theorem QOp.ev_congr {q : QOp} {a b : Frame} (h : ∀ x ∈ q.opds, x.ev a = x.ev b) (σ : ASt) : q.ev a σ = q.ev b σ := by
  cases q
  case build z parts => simp only [QOp.ev]; rw [parts_congr parts h]
  case func fn first cap =>
    simp only [QOp.ev]
    rw [List.map_congr_left fun x hx => h x (by simp [QOp.opds, hx]), List.map_congr_left (l := cap) fun x hx => h x (by simp [QOp.opds, hx])]
  case slStr x lo hi => cases lo <;> cases hi <;> simp [QOp.opds] at h <;> simp [QOp.ev, h]
  case slList es x lo hi => cases lo <;> cases hi <;> simp [QOp.opds] at h <;> simp [QOp.ev, h]
  case slArr es n x lo hi => cases lo <;> cases hi <;> simp [QOp.opds] at h <;> simp [QOp.ev, h]
  all_goals (simp [QOp.opds] at h; simp [QOp.ev, h])

theorem QOp.ev_pure {q : QOp} (h : q.reads = false) (a : Frame) (σ σ' : ASt) : q.ev a σ = q.ev a σ' := by
  cases q <;> first | rfl | (simp [QOp.reads] at h)

theorem EOp.ev_congr {e : EOp} {a b : Frame} (h : ∀ x ∈ e.opds, x.ev a = x.ev b) (call : FuncId → List AVal → M AVal) (σ : ASt) : e.ev call a σ = e.ev call b σ := by
  cases e
  case bslice el es n z parts => simp only [EOp.ev]; rw [parts_congr parts h]
  case call f args => simp only [EOp.ev]; rw [List.map_congr_left fun x hx => h x (by simp [EOp.opds, hx])]
  case callv x args => simp only [EOp.ev]; rw [List.map_congr_left fun x hx => h x (by simp [EOp.opds, hx]), h x (by simp [EOp.opds])]
  all_goals (simp [EOp.opds] at h; simp [EOp.ev, h])

/-- Whether an operation is done. -/
def IOper.pre (io : IOper) (a : Frame) : Option Bool :=
  match io.guard with
  | none => some true
  | some (t, want) => match fget a t with
    | .bool b => some (decide (b = want))
    | .tuple [] => some false
    | _ => none

def IOper.qv (io : IOper) (q : QOp) (a : Frame) (σ : ASt) : Option AVal :=
  match io.pre a with
  | some true => q.ev a σ
  | some false => some (.tuple [])
  | none => none

/-- Frames in which the same is found. -/
def FEq (a b : Frame) : Prop := ∀ t, fget a t = fget b t

theorem FEq.refl (a : Frame) : FEq a a := fun _ => rfl
theorem FEq.put {a b : Frame} (h : FEq a b) (d : Option Nat) (v : AVal) : FEq (fput a d v) (fput b d v) := by
  cases d with
  | none => exact h
  | some d =>
    intro t
    simp only [fput, fget]
    split
    · rfl
    · exact h t
theorem FEq.dup {a : Frame} {t : Nat} {v : AVal} (h : fget a t = v) : FEq ((t, v) :: a) a := by
  intro t'
  simp only [fget]
  split
  · rename_i e; subst e; exact h.symm
  · rfl
theorem FEq.symm {a b : Frame} (h : FEq a b) : FEq b a := fun t => (h t).symm
theorem FEq.trans {a b c : Frame} (h : FEq a b) (k : FEq b c) : FEq a c := fun t => (h t).trans (k t)
theorem FEq.ev {a b : Frame} (h : FEq a b) (x : IOpd) : x.ev a = x.ev b := by cases x <;> simp [IOpd.ev, h _]
theorem FR.of_feq {φ : Phi} {w : World} {a b : Frame} {t : Array Value} (h : FEq a b) (fr : FR φ w a t) : FR φ w b t := fun i => by rw [← h i]; exact fr i

def isOk (r : R (AExit × Frame)) : Prop := match r with | .ok _ _ => True | _ => False

theorem ev_quiet {io : IOper} {q : QOp} (hq : io.act = .q q) {call : FuncId → List AVal → M AVal} {a : Frame} {K : Frame → M (AExit × Frame)} {σ : ASt} (h : isOk (io.ev call a K σ)) :
    ∃ v a', io.qv q a σ = some v ∧ io.ev call a K σ = K a' σ ∧ FEq a' (fput a io.dst v) := by
  unfold IOper.ev at h ⊢
  unfold IOper.qv IOper.pre
  cases hg : io.guard with
  | none =>
    simp only [hg, IOper.go, hq] at h ⊢
    cases hv : q.ev a σ with
    | none => rw [hv] at h; exact h.elim
    | some v => exact ⟨v, _, rfl, rfl, .refl _⟩
  | some p =>
    obtain ⟨t, want⟩ := p
    simp only [hg] at h ⊢
    cases ht : fget a t with
    | bool b =>
      simp only [ht] at h ⊢
      by_cases hb : b = want
      · simp only [if_pos hb, IOper.go, hq, decide_eq_true hb] at h ⊢
        have e := FEq.dup ht
        rw [QOp.ev_congr (fun x _ => e.ev x)] at h ⊢
        cases hv : q.ev a σ with
        | none => rw [hv] at h; exact h.elim
        | some v => exact ⟨v, _, rfl, rfl, e.put _ _⟩
      · simp only [if_neg hb, decide_eq_false hb]
        exact ⟨_, _, rfl, rfl, (FEq.dup ht).put _ _⟩
    | tuple l =>
      cases l with
      | nil =>
        simp only [ht] at h ⊢
        exact ⟨_, _, rfl, rfl, .refl _⟩
      | cons => simp only [ht] at h; exact h.elim
    | _ => simp only [ht] at h; exact h.elim

theorem ev_eff {io : IOper} {e : EOp} {pend : List (Nat × QOp)} (hq : io.act = .e e pend) {call : FuncId → List AVal → M AVal} {a : Frame} {K : Frame → M (AExit × Frame)} {σ : ASt} (h : isOk (io.ev call a K σ)) :
    (io.pre a = some false ∧ ∃ a', io.ev call a K σ = K a' σ ∧ FEq a' (fput a io.dst (.tuple []))) ∨
    (io.pre a = some true ∧ ((∃ v σ' a', e.ev call a σ = .ok v σ' ∧ stands pend a σ' = true ∧ io.ev call a K σ = K a' σ' ∧ FEq a' (fput a io.dst v)) ∨
      (∃ v σ' a', e.ev call a σ = .panic v σ' ∧ io.ev call a K σ = .ok (.panic v, a') σ' ∧ FEq a' a))) := by
  have key : ∀ a0, FEq a0 a → isOk (io.go call a0 K σ) → ((∃ v σ' a', e.ev call a σ = .ok v σ' ∧ stands pend a σ' = true ∧ io.go call a0 K σ = K a' σ' ∧ FEq a' (fput a io.dst v)) ∨
      (∃ v σ' a', e.ev call a σ = .panic v σ' ∧ io.go call a0 K σ = .ok (.panic v, a') σ' ∧ FEq a' a)) := by
    intro a0 e0 h
    simp only [IOper.go, hq] at h ⊢
    rw [EOp.ev_congr (fun x _ => e0.ev x)] at h ⊢
    have hst : ∀ σ', stands pend a0 σ' = stands pend a σ' := by
      intro σ'
      unfold stands
      congr 1
      funext p
      rw [QOp.ev_congr (fun x _ => e0.ev x), e0 p.1]
    cases hv : e.ev call a σ with
    | bad => rw [hv] at h; exact h.elim
    | panic v σ' => exact .inr ⟨v, σ', _, rfl, rfl, e0⟩
    | ok v σ' =>
      simp only [hv, hst] at h ⊢
      cases hs : stands pend a σ' with
      | false => rw [hs] at h; exact h.elim
      | true => exact .inl ⟨v, σ', _, rfl, hs, rfl, e0.put _ _⟩
  unfold IOper.ev at h ⊢
  unfold IOper.pre
  cases hg : io.guard with
  | none =>
    simp only [hg] at h ⊢
    exact .inr ⟨trivial, key a (.refl a) h⟩
  | some p =>
    obtain ⟨t, want⟩ := p
    simp only [hg] at h ⊢
    cases ht : fget a t with
    | bool b =>
      simp only [ht] at h ⊢
      by_cases hb : b = want
      · simp only [if_pos hb, decide_eq_true hb] at h ⊢
        exact .inr ⟨trivial, key _ (.dup ht) h⟩
      · simp only [if_neg hb, decide_eq_false hb]
        exact .inl ⟨trivial, _, rfl, (FEq.dup ht).put _ _⟩
    | tuple l =>
      cases l with
      | nil =>
        simp only [ht] at h ⊢
        exact .inl ⟨trivial, _, rfl, .refl _⟩
      | cons => simp only [ht] at h; exact h.elim
    | _ => simp only [ht] at h; exact h.elim

section
variable {P : Program} {w0 : World} {φ φ1 : Phi} {σ : ASt} {w w1 : World} {a : Frame} {ac : Act} {nt : Nat} {ds : List Deferred}

theorem trOper_dst {ops : Array Oper} {o : Oper} {pend : List (Nat × QOp)} {io : IOper} {fl : Option Nat} (h : trOper P nt ops fl o pend = some io) :
    io.dst = o.dst ∧ (∀ d, o.dst = some d → d < nt) ∧ trGuard ops o.guard = some io.guard ∧ ∃ act, trOp P o = some act ∧ io.act = act.up fl pend := by
  unfold trOper at h
  split at h
  · rename_i act g hact hg
    split at h
    · rename_i hd
      cases h
      refine ⟨rfl, fun d e => ?_, hg, act, hact, rfl⟩
      rw [e] at hd
      simpa [dstOk] using hd
    · cases h
  · cases h

theorem yield_ok' (fr : FR φ w a ac.tmps) {ops : Array Oper} {j t : Nat} {b : Bool} (hs : slotOf ops j = some t) (hg : fget a t = .bool b) : yielded ops ac.tmps j = some b := by
  rcases Nat.lt_or_ge t ac.tmps.size with h | h
  · exact yield_ok fr hs hg h
  · have h' := fr t
    rw [hg, Array.getD_eq_getD_getElem?, Array.getElem?_eq_none h] at h'
    simp only [Option.getD_none] at h'
    cases h'

theorem vr_skip : VR φ w (.tuple []) undef := .tuple [] [] rfl (by simp)

theorem yield_no (fr : FR φ w a ac.tmps) {ops : Array Oper} {j t : Nat} (hs : slotOf ops j = some t) (hg : fget a t = .tuple []) : yielded ops ac.tmps j = none := by
  have h' := fr t
  rw [hg, Array.getD_eq_getD_getElem?] at h'
  unfold yielded
  unfold slotOf at hs
  rw [hs]
  simp only [Option.bind_some]
  cases hx : ac.tmps[t]? with
  | none => rfl
  | some x =>
    rw [hx] at h'
    simp only [Option.getD_some] at h'
    cases h'
    rfl

theorem pre_ok (fr : FR φ w a ac.tmps) {ops : Array Oper} {o : Oper} {pend : List (Nat × QOp)} {io : IOper} {fl : Option Nat} (h : trOper P nt ops fl o pend = some io) {b : Bool} (hp : io.pre a = some b) : Region.wanted o (yielded ops ac.tmps) = b := by
  obtain ⟨_, _, hg, _⟩ := trOper_dst h
  unfold IOper.pre at hp
  unfold Region.wanted
  cases ho : o.guard with
  | none =>
    rw [ho] at hg
    cases hg' : io.guard with
    | none => rw [hg'] at hp; cases hp; rfl
    | some p => rw [hg'] at hg; cases hg
  | some p =>
    obtain ⟨j, want⟩ := p
    rw [ho] at hg
    simp only [trGuard, Option.map_eq_some_iff] at hg
    obtain ⟨t, h1, h2⟩ := hg
    rw [← h2] at hp
    simp only [] at hp ⊢
    cases ht : fget a t with
    | bool c =>
      rw [ht] at hp
      cases hp
      rw [yield_ok' fr h1 ht]
      cases c <;> cases want <;> rfl
    | tuple l =>
      cases l with
      | nil =>
        rw [ht] at hp
        cases hp
        rw [yield_no fr h1 ht]
        rfl
      | cons => rw [ht] at hp; cases hp
    | _ => rw [ht] at hp; cases hp

/-- A quiet operation, done or not. -/
theorem quiet_wp {call : FuncId → List AVal → M AVal} (hc : CallOk P w0 call) (s : Sim w0 φ σ w) (fr : FR φ w a ac.tmps) {ops : Array Oper} {i : Nat} {o : Oper} (ho : ops[i]? = some o) {pend : List (Nat × QOp)} {io : IOper} {fl : Option Nat} (h : trOper P nt ops fl o pend = some io) {q : QOp} (hq : io.act = .q q)
    {v : AVal} (hv : io.qv q a σ = some v) {next : Act → World → Prop} {Q : Exit → Act → World → Prop} (hk : ∀ cv w', VR φ w' v cv → Ext φ w φ w' → Sim w0 φ σ w' → next (ac.put o.dst cv) w') : wpOp P ops Q i next ac w := by
  unfold wpOp
  rw [ho]
  simp only []
  obtain ⟨_, _, _, act, hact, hio⟩ := trOper_dst h
  rw [hq] at hio
  cases act with
  | e e => cases hio
  | q q' =>
    cases hio
    unfold IOper.qv at hv
    cases hp : io.pre a with
    | none => rw [hp] at hv; cases hv
    | some b =>
      rw [hp] at hv
      rw [pre_ok fr h hp]
      cases b with
      | false => cases hv; simp only [Bool.false_eq_true, if_false]; exact hk undef w vr_skip (.refl φ w) s
      | true =>
        simp only [if_true]
        refine .inl ?_
        exact qt_ok hc s fr hact hv hk

/-- An operation that turns the state, done or not. -/
theorem eff_wp {call : FuncId → List AVal → M AVal} (hc : CallOk P w0 call) (s : Sim w0 φ σ w) (fr : FR φ w a ac.tmps) {ops : Array Oper} {i : Nat} {o : Oper} (ho : ops[i]? = some o) {pend : List (Nat × QOp)} {io : IOper} {fl : Option Nat} (h : trOper P nt ops fl o pend = some io) {e : EOp} {pend' : List (Nat × QOp)} (hq : io.act = .e e pend')
    {next : Act → World → Prop} {Q : Exit → Act → World → Prop} {b : Bool} (hp : io.pre a = some b)
    (h0 : b = false → next (ac.put o.dst undef) w)
    (he : b = true → ∀ v σ', e.ev call a σ = .ok v σ' → ∀ cv φ' w', VR φ' w' v cv → Ext φ w φ' w' → Sim w0 φ' σ' w' → next (ac.put o.dst cv) w')
    (hpn : b = true → ∀ v σ', e.ev call a σ = .panic v σ' → ∀ cv φ' w', VR φ' w' v cv → Ext φ w φ' w' → Sim w0 φ' σ' w' → Q (.panic [{ v := cv, recovered := false }]) ac w')
    (he0 : b = true → e.ev call a σ ≠ .bad) : wpOp P ops Q i next ac w := by
  unfold wpOp
  rw [ho]
  simp only []
  obtain ⟨_, _, _, act, hact, hio⟩ := trOper_dst h
  rw [hq] at hio
  cases act with
  | q q => cases hio
  | e e' =>
    cases hio
    rw [pre_ok fr h hp]
    cases b with
    | false => simp only [Bool.false_eq_true, if_false]; exact h0 rfl
    | true =>
      simp only [if_true]
      exact .inl (eff_ok hc s fr fl hact (he rfl) (hpn rfl) (he0 rfl))

/-- What comes of a region stands behind it. -/
def After (w0 : World) (φ1 : Phi) (w1 : World) (nt : Nat) (ds : List Deferred) (ls : List IOper) (r : R (AExit × Frame)) (Q : Exit → Act → World → Prop) : Prop :=
  match r with
  | .ok (e, a) σ => ∀ e' ac w, OX w0 φ1 w1 nt ds e (unq ls e a) σ e' ac w → Q e' ac w
  | _ => False

theorem After.isOk {ls : List IOper} {r : R (AExit × Frame)} {Q : Exit → Act → World → Prop} (h : After w0 φ1 w1 nt ds ls r Q) : isOk r := by
  cases r <;> first | trivial | exact h.elim

theorem fr_unq (fr : FR φ w a ac.tmps) (ls : List IOper) (e : AExit) : FR φ w (unq ls e a) ac.tmps := by
  cases e with
  | panic v =>
    intro t
    rw [fget_unq]
    split
    · exact .undef _
    · exact fr t
  | _ => exact fr

/-- A REGION IN THE TEXT'S ORDER. -/
theorem text_ok {nt0 : Nat} (hle : nt0 ≤ nt) {ls : List IOper} {call : FuncId → List AVal → M AVal} (hc : CallOk P w0 call) {ops : Array Oper} {Q : Exit → Act → World → Prop} : ∀ (l : List Nat) (ios : List IOper) (φ : Phi) (σ : ASt) (w : World) (a : Frame) (ac : Act),
    (l.mapM fun i => (ops[i]?).bind fun o => trOper P nt0 ops none o []) = some ios →
    Sim w0 φ σ w → Ext φ1 w1 φ w → FR φ w a ac.tmps → ac.tmps.size = nt → ac.defers = ds → After w0 φ1 w1 nt ds ls (evOps call ios a σ) Q → wpOps P ops Q l ac w
  | [], ios, φ, σ, w, a, ac, h, s, x, fr, hn, hd, hr => by
    cases h
    exact hr .normal ac w ⟨φ, x, s, fr, hn, hd, trivial⟩
  | i :: l, ios, φ, σ, w, a, ac, h, s, x, fr, hn, hd, hr => by
    simp only [List.mapM_cons, Option.pure_def, Option.bind_eq_bind, Option.bind_eq_some_iff] at h
    obtain ⟨io, ⟨o, ho, h1⟩, ios', h2, e⟩ := h
    cases e
    rw [wpOps_cons]
    have hr' : After w0 φ1 w1 nt ds ls (io.ev call a (evOps call ios') σ) Q := hr
    obtain ⟨hdst, hlt, _, act, hact, hio⟩ := trOper_dst h1
    have hd' : ∀ d, o.dst = some d → d < ac.tmps.size := fun d e => by rw [hn]; exact Nat.lt_of_lt_of_le (hlt d e) hle
    cases act with
    | q q =>
      obtain ⟨v, a', k1, k2, k3⟩ := ev_quiet hio hr'.isOk
      rw [k2] at hr'
      refine quiet_wp hc s fr ho h1 hio k1 fun cv w' hcv q2 q3 => ?_
      refine text_ok hle hc l ios' φ σ w' a' _ h2 q3 (x.trans q2) ?_ (by rw [(put_size _ _).1, hn]) (by rw [(put_size _ _).2, hd]) hr'
      rw [hdst] at k3
      exact (fr_put (fun t => (fr t).mono q2) hcv hd').of_feq k3.symm
    | e e =>
      rcases ev_eff hio hr'.isOk with ⟨k1, a', k2, k3⟩ | ⟨k1, k⟩
      · rw [k2] at hr'
        refine eff_wp hc s fr ho h1 hio k1 (fun _ => ?_) (by simp) (by simp) (by simp)
        refine text_ok hle hc l ios' φ σ w a' _ h2 s x ?_ (by rw [(put_size _ _).1, hn]) (by rw [(put_size _ _).2, hd]) hr'
        rw [hdst] at k3
        exact (fr_put fr vr_skip hd').of_feq k3.symm
      · refine eff_wp hc s fr ho h1 hio k1 (by simp) (fun _ v σ' hv cv φ' w' q1 q2 q3 => ?_) (fun _ v σ' hv cv φ' w' q1 q2 q3 => ?_) (fun _ hv => ?_)
        · rcases k with ⟨v', σ'', a', p1, p2, p3, p4⟩ | ⟨v', σ'', a', p1, p2, p3⟩
          · rw [p1] at hv
            cases hv
            rw [p3] at hr'
            refine text_ok hle hc l ios' φ' σ' w' a' _ h2 q3 (x.trans q2) ?_ (by rw [(put_size _ _).1, hn]) (by rw [(put_size _ _).2, hd]) hr'
            rw [hdst] at p4
            exact (fr_put (fun t => (fr t).mono q2) q1 hd').of_feq p4.symm
          · rw [p1] at hv; cases hv
        · rcases k with ⟨v', σ'', a', p1, p2, p3, p4⟩ | ⟨v', σ'', a', p1, p2, p3⟩
          · rw [p1] at hv; cases hv
          · rw [p1] at hv
            cases hv
            rw [p2] at hr'
            refine hr' _ ac w' ⟨φ', x.trans q2, q3, fr_unq (FR.of_feq p3.symm (fun t => (fr t).mono q2)) ls (.panic _), hn, hd, _, rfl, q1⟩
        · rcases k with ⟨v', σ'', a', p1, p2, p3, p4⟩ | ⟨v', σ'', a', p1, p2, p3⟩ <;> rw [p1] at hv <;> cases hv

end
end Go.Am

