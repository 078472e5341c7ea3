/-
  The evaluator as the kernel runs it: code; calls that are kept. Conditions: none.
-/
import Derived.Test.YthgemggkogfhaaaGreatDoorB4
import Derived.Test.YthgemggkogfhaaaGreatDoorB2
namespace Go.Am
open Go Go.RowKit

inductive RK (α : Type) where
  | ok (a : α) (τ : KS)
  | panic (v : AVal) (τ : KS)
  | bad

abbrev MK (α : Type) := KS → RK α
abbrev CallK := FuncId → List AVal → MK AVal

noncomputable def standV (a : Frame) (t : Nat) (o : Option AVal) : Bool := match o with | some v => sameV 6 v (fgetF a t) | none => false

noncomputable def standsK (pend : List (Nat × QOp)) (a : Frame) (τ : KS) : Bool :=
  List.rec (motive := fun _ => Bool) true (fun p _ ih => Bool.rec (motive := fun _ => Bool) false ih (standV a p.1 (p.2.evG τ.t.get (IOpd.evF a)))) pend

def okK (v : AVal) (o : Option KS) : RK AVal := match o with | some τ => .ok v τ | none => .bad
noncomputable def planK (p : Plan) (τ : KS) : RK AVal := match p with | some (v, cs) => okK v (runCmdsK cs τ) | none => .bad
def callvK (call : CallK) (v : AVal) (args : List AVal) (τ : KS) : RK AVal := match v with | .func (.func f) first cap => call f (first ++ args ++ cap) τ | _ => .bad
def panicK (v : AVal) (τ : KS) : RK AVal := match v with | .iface t v => .panic (.iface t v) τ | _ => .bad

noncomputable def plainK (e : EOp) (_ : CallK) (a : Frame) (τ : KS) : RK AVal := planK (e.plan τ.t.get τ.n (IOpd.evF a)) τ
noncomputable def EOp.evK (e : EOp) : CallK → Frame → MK AVal :=
  EOp.rec (motive := fun _ => CallK → Frame → MK AVal)
    (fun t z => plainK (.alloc t z)) (fun t x => plainK (.box t x)) (fun el es n zero parts => plainK (.bslice el es n zero parts)) (plainK .mkmap) (fun el es zero x => plainK (.mkslice el es zero x)) (fun n p x => plainK (.store n p x))
    (fun c m k x => plainK (.mapupd c m k x)) (fun el es bytes s x => plainK (.append el es bytes s x)) (fun es s x => plainK (.copy es s x)) (fun el p n => plainK (.ustr el p n))
    (fun f args call a τ => call f (mapF (IOpd.evF a) args) τ)
    (fun x args call a τ => callvK call (x.evF a) (mapF (IOpd.evF a) args) τ)
    (fun x _ a τ => panicK (x.evF a) τ)
    (fun x => plainK (.set x)) (fun k => plainK (.res k)) (fun j t z => plainK (.fillA j t z)) (fun j el es zero x => plainK (.fillS j el es zero x)) (fun j => plainK (.fillM j)) e

def contK (dst : Option Nat) (a : Frame) (K : Frame → MK (AExit × Frame)) (τ : KS) (o : Option AVal) : RK (AExit × Frame) := match o with | some v => K (fput a dst v) τ | none => .bad
noncomputable def afterK (pend : List (Nat × QOp)) (dst : Option Nat) (a : Frame) (K : Frame → MK (AExit × Frame)) (r : RK AVal) : RK (AExit × Frame) := match r with
  | .ok v τ' => Bool.rec (motive := fun _ => RK (AExit × Frame)) .bad (K (fput a dst v) τ') (standsK pend a τ')
  | .panic v τ' => .ok (.panic v, a) τ'
  | .bad => .bad

noncomputable def actK (act : Act1) : CallK → Option Nat → Frame → (Frame → MK (AExit × Frame)) → MK (AExit × Frame) :=
  Act1.rec (motive := fun _ => CallK → Option Nat → Frame → (Frame → MK (AExit × Frame)) → MK (AExit × Frame))
    (fun op _ dst a K τ => contK dst a K τ (op.evG τ.t.get (IOpd.evF a)))
    (fun op pend call dst a K τ => afterK pend dst a K (op.evK call a τ)) act

noncomputable def guardK (g : AVal) (want : Bool) (act : Act1) (call : CallK) (dst : Option Nat) (t : Nat) (a : Frame) (K : Frame → MK (AExit × Frame)) (τ : KS) : RK (AExit × Frame) := match g with
  | .bool b => Bool.rec (motive := fun _ => RK (AExit × Frame)) (K (fput ((t, .bool b) :: a) dst (.tuple [])) τ) (actK act call dst ((t, .bool b) :: a) K τ) (Bool.rec (motive := fun _ => Bool) (!want) want b)
  | .tuple [] => K (fput a dst (.tuple [])) τ
  | _ => .bad

noncomputable def operK (g : Option (Nat × Bool)) : Act1 → CallK → Option Nat → Frame → (Frame → MK (AExit × Frame)) → MK (AExit × Frame) :=
  Option.rec (motive := fun _ => Act1 → CallK → Option Nat → Frame → (Frame → MK (AExit × Frame)) → MK (AExit × Frame))
    (fun act call dst a K => actK act call dst a K) (fun p act call dst a K τ => guardK (fgetF a p.1) p.2 act call dst p.1 a K τ) g

noncomputable def IOper.evK (call : CallK) (o : IOper) (a : Frame) (K : Frame → MK (AExit × Frame)) : MK (AExit × Frame) := operK o.guard o.act call o.dst a K

noncomputable def evOpsK (call : CallK) (l : List IOper) : Frame → MK (AExit × Frame) :=
  List.rec (motive := fun _ => Frame → MK (AExit × Frame)) (fun a τ => .ok (.norm, a) τ) (fun o _ ih a => o.evK call a ih) l

noncomputable def restrictF (live : List Nat) (a : Frame) : Frame := mapF (fun i => (i, fgetF a i)) live
theorem restrictF_eq (live : List Nat) (a : Frame) : restrictF live a = restrict live a := by
  unfold restrictF restrict
  rw [mapF_eq]
  simp only [fgetF_eq]

noncomputable def thenK (x : RK (AExit × AAct)) (f : AAct → MK (AExit × AAct)) : RK (AExit × AAct) :=
  match x with
  | .ok (.norm, a) τ => f a τ
  | r => r

noncomputable def loopK (body : AAct → MK (AExit × AAct)) (n : Nat) : AAct → MK (AExit × AAct) :=
  Nat.rec (motive := fun _ => AAct → MK (AExit × AAct)) (fun _ _ => .bad) (fun _ ih a τ => thenK (body a τ) ih) n

noncomputable def blockK (id : Nat) (x : RK (AExit × AAct)) : RK (AExit × AAct) :=
  match x with
  | .ok (.exit i, a) τ => if i = id then .ok (.norm, a) τ else .ok (.exit i, a) τ
  | r => r

noncomputable def opsK (ls : List IOper) (live : List Nat) (d : List (AVal × List AVal)) (x : RK (AExit × Frame)) : RK (AExit × AAct) :=
  match x with
  | .ok (.norm, a) τ => .ok (.norm, ⟨restrictF live a, d⟩) τ
  | .ok (e, a) τ => .ok (e, ⟨unq ls e a, d⟩) τ
  | .panic v τ => .panic v τ
  | .bad => .bad

abbrev CodeK := Nat → CallK → AAct → MK (AExit × AAct)
def skipC : CodeK := fun _ _ a τ => .ok (.norm, a) τ
noncomputable def opsC (l : List IOper) (live : List Nat) : CodeK := fun _ call a τ => opsK l live a.d (evOpsK call l a.a τ)
def defK (v : AVal) (args : List AVal) (a : AAct) (τ : KS) : RK (AExit × AAct) := match v with | .func fn first cap => .ok (.norm, ⟨a.a, (.func fn first cap, args) :: a.d⟩) τ | _ => .bad
noncomputable def defC (x : IOpd) (args : List IOpd) : CodeK := fun _ _ a τ => defK (x.evF a.a) (mapF (IOpd.evF a.a) args) a τ
noncomputable def seqC (x y : CodeK) : CodeK := fun n call a τ => thenK (x n call a τ) (y n call)
noncomputable def ifK (v : AVal) (x y : CodeK) (n : Nat) (call : CallK) (a : AAct) (τ : KS) : RK (AExit × AAct) := match v with
  | .bool b => Bool.rec (motive := fun _ => RK (AExit × AAct)) (y n call a τ) (x n call a τ) b
  | _ => .bad
noncomputable def condC (c : IOpd) (x y : CodeK) : CodeK := fun n call a τ => ifK (c.evF a.a) x y n call a τ
noncomputable def blockC (id : Nat) (x : CodeK) : CodeK := fun n call a τ => blockK id (x n call a τ)
noncomputable def loopC (live : List Nat) (x : CodeK) : CodeK := fun n call a => loopK (fun a => x n call ⟨restrictF live a.a, a.d⟩) n a
def exitC (id : Nat) : CodeK := fun _ _ a τ => .ok (.exit id, a) τ
def retC : CodeK := fun _ _ a τ => .ok (.ret, a) τ

noncomputable def ICode.codeK (x : ICode) : CodeK :=
  ICode.rec (motive := fun _ => CodeK) skipC opsC defC (fun _ _ ihx ihy => seqC ihx ihy) (fun c _ _ ihx ihy => condC c ihx ihy) (fun id _ ih => blockC id ih) (fun live _ ih => loopC live ih) exitC retC x

noncomputable def ICode.evK (n : Nat) (call : CallK) (x : ICode) : AAct → MK (AExit × AAct) := x.codeK n call

noncomputable def res1K (a : Frame) (τ : KS) (r : IRes) : Option AVal := match r with
  | .slot t => some (fgetF a t)
  | .cell t n => loadV n (fgetF a t) τ.t.get

noncomputable def resK (rs : List IRes) (a : Frame) (τ : KS) : Option AVal :=
  match rs with
  | [r] => res1K a τ r
  | rs => (rs.mapM (res1K a τ)).map .tuple

/-- A function that is deferred: a plain one, or one that recovers first. -/
inductive DFn where
  | plain (fn : IFunc)
  | recs (fn : RFunc)

structure EnvK where
  fns : FuncId → Option IFunc
  prim : FuncId → Option (List AVal → MK AVal)
  dfn : FuncId → Option DFn

/-- Deferred functions call nothing. -/
def noCall : CallK := fun _ _ _ => .bad

noncomputable def dpK (n : Nat) (d : DFn) (args : List AVal) (m : Mode) (τ : KS) : RK Mode :=
  match d with
  | .plain fn => match fn.body.evK n noCall ⟨enter args, []⟩ τ with
    | .ok (.norm, ⟨a, []⟩) τ' | .ok (.ret, ⟨a, []⟩) τ' => match resK fn.res a τ' with | some _ => .ok m τ' | none => .bad
    | _ => .bad
  | .recs fn => match evOpsK noCall fn.ops (fput (enter args) (some fn.dst) m.found) τ with
    | .ok (.norm, a) τ1 => match fn.rest.evK n noCall ⟨restrictF fn.live a, []⟩ τ1 with
      | .ok (.norm, ⟨a, []⟩) τ' | .ok (.ret, ⟨a, []⟩) τ' => match resK fn.res a τ' with | some _ => .ok none τ' | none => .bad
      | _ => .bad
    | _ => .bad

noncomputable def runDK (E : EnvK) (n : Nat) : List (AVal × List AVal) → Mode → KS → RK Mode
  | [], m => fun τ => .ok m τ
  | (f, args) :: ds, m => fun τ =>
    match f with
    | .func (.func k) first cap => match E.dfn k with
      | some d => match dpK n d (first ++ args ++ cap) m τ with
        | .ok m' τ' => runDK E n ds m' τ'
        | _ => .bad
      | none => .bad
    | _ => .bad

noncomputable def leaveK (rs : List IRes) (a : Frame) (r : RK Mode) : RK AVal :=
  match r with
  | .ok none τ => match resK rs a τ with | some v => .ok v τ | none => .bad
  | .ok (some v) τ => .panic v τ
  | _ => .bad

noncomputable def bodyK (E : EnvK) (rs : List IRes) (r : RK (AExit × AAct)) : RK AVal :=
  match r with
  | .ok (.norm, a) τ | .ok (.ret, a) τ => leaveK rs a.a (runDK E 8 a.d none τ)
  | .ok (.panic v, a) τ => leaveK rs a.a (runDK E 8 a.d (some v) τ)
  | _ => .bad

/-- A call of a function, with fuel n. -/
noncomputable def evFK (E : EnvK) : Nat → FuncId → List AVal → MK AVal
  | 0, _, _ => fun _ => .bad
  | n + 1, f, args => fun τ =>
    match E.prim f with
    | some p => p args τ
    | none => match E.fns f with
      | some fn => bodyK E fn.res (fn.body.evK n (evFK E n) ⟨enter args, []⟩ τ)
      | none => .bad

/-- What the one reckons the other does. -/
def RepR {α : Type} (x : RK α) (y : R α) : Prop :=
  match x with
  | .bad => True
  | .ok a τ => ∃ σ, y = .ok a σ ∧ Rep τ σ
  | .panic v τ => ∃ σ, y = .panic v σ ∧ Rep τ σ

def CallRep (c : CallK) (d : Call) : Prop := ∀ f args τ σ, Rep τ σ → RepR (c f args τ) (d f args σ)

theorem noCall_rep (d : Call) : CallRep noCall d := fun _ _ _ _ _ => trivial

section
variable {c : CallK} {d : Call}

theorem evF1 (a : Frame) (x : IOpd) : IOpd.evF a x = x.ev a := congrFun (evF_opd a) x

theorem eop_rep (h : CallRep c d) (e : EOp) (a : Frame) {τ : KS} {σ : ASt} (r : Rep τ σ) : RepR (e.evK c a τ) (e.ev d a σ) := by
  have plain : RepR (plainK e c a τ) (e.ev d a σ) := by
    unfold plainK planK
    cases hp : e.plan τ.t.get τ.n (IOpd.evF a) with
    | none => trivial
    | some p =>
      obtain ⟨v, cs⟩ := p
      simp only
      cases hr : runCmdsK cs τ with
      | none => trivial
      | some τ' =>
        rw [r.len, evF_opd] at hp
        exact ⟨_, plan_ok r.get hp, runCmdsK_ok r hr⟩
  cases e
  case call f args =>
    have : RepR (c f (mapF (IOpd.evF a) args) τ) (d f (args.map (·.ev a)) σ) := by
      rw [mapF_eq, evF_opd]
      exact h _ _ _ _ r
    exact this
  case callv x args =>
    have : RepR (callvK c (x.evF a) (mapF (IOpd.evF a) args) τ) (acallv d (x.ev a) (args.map (·.ev a)) σ) := by
      rw [mapF_eq, evF1, evF_opd]
      unfold callvK acallv
      cases x.ev a with
      | func fn first cap => cases fn <;> first | exact h _ _ _ _ r | trivial
      | _ => trivial
    exact this
  case panic x =>
    have : RepR (panicK (x.evF a) τ) (apanic (x.ev a) σ) := by
      rw [evF1]
      unfold panicK apanic
      cases x.ev a with
      | iface t v => exact ⟨σ, rfl, r⟩
      | _ => trivial
    exact this
  all_goals exact plain

theorem stands_rep {a : Frame} {τ : KS} {σ : ASt} (r : Rep τ σ) : ∀ {pend : List (Nat × QOp)}, standsK pend a τ = true → stands pend a σ = true
  | [], _ => rfl
  | p :: l, h => by
    have e : standsK (p :: l) a τ = Bool.rec (motive := fun _ => Bool) false (standsK l a τ) (standV a p.1 (p.2.evG τ.t.get (IOpd.evF a))) := rfl
    rw [e] at h
    cases hs : standV a p.1 (p.2.evG τ.t.get (IOpd.evF a)) with
    | false => rw [hs] at h; cases h
    | true =>
      rw [hs] at h
      have ih := stands_rep r (pend := l) h
      unfold stands at ih ⊢
      rw [List.all_cons, ih, Bool.and_true]
      unfold standV at hs
      split at hs
      · rename_i v hv
        rw [evF_opd] at hv
        have h1 := evG_ok r.get hv
        have : ∀ i : Decidable (p.2.ev a σ = some (fget a p.1)), @decide _ i = true := fun i => @decide_eq_true _ i (h1.trans (by rw [sameV_eq 6 hs, fgetF_eq]))
        exact this _
      · cases hs

theorem ops_rep (h : CallRep c d) : ∀ (l : List IOper) (a : Frame) {τ : KS} {σ : ASt}, Rep τ σ → RepR (evOpsK c l a τ) (evOps d l a σ)
  | [], a, τ, σ, r => ⟨σ, rfl, r⟩
  | o :: l, a, τ, σ, r => by
    have go : ∀ a, RepR (actK o.act c o.dst a (evOpsK c l) τ) (o.go d a (evOps d l) σ) := by
      intro a
      unfold IOper.go
      cases o.act with
      | q op =>
        have : RepR (contK o.dst a (evOpsK c l) τ (op.evG τ.t.get (IOpd.evF a))) (match op.ev a σ with | some v => evOps d l (fput a o.dst v) σ | none => .bad) := by
          cases hv : op.evG τ.t.get (IOpd.evF a) with
          | none => trivial
          | some v =>
            rw [evF_opd] at hv
            rw [evG_ok r.get hv]
            exact ops_rep h l _ r
        exact this
      | e op pend =>
        have he := eop_rep h op a r
        have : RepR (afterK pend o.dst a (evOpsK c l) (op.evK c a τ)) (match op.ev d a σ with
          | .ok v σ' => if stands pend a σ' then evOps d l (fput a o.dst v) σ' else .bad
          | .panic v σ' => .ok (.panic v, a) σ'
          | .bad => .bad) := by
          cases hv : op.evK c a τ with
          | bad => trivial
          | panic v τ' =>
            rw [hv] at he
            obtain ⟨σ', h1, h2⟩ := he
            rw [h1]
            exact ⟨σ', rfl, h2⟩
          | ok v τ' =>
            rw [hv] at he
            obtain ⟨σ', h1, h2⟩ := he
            rw [h1]
            simp only [afterK]
            cases hs : standsK pend a τ' with
            | false => trivial
            | true =>
              rw [stands_rep h2 hs]
              exact ops_rep h l _ h2
        exact this
    show RepR (operK o.guard o.act c o.dst a (evOpsK c l) τ) (o.ev d a (evOps d l) σ)
    unfold IOper.ev
    cases o.guard with
    | none => exact go a
    | some p =>
      obtain ⟨t, want⟩ := p
      show RepR (guardK (fgetF a t) want o.act c o.dst t a (evOpsK c l) τ) _
      rw [fgetF_eq]
      unfold guardK
      dsimp only
      cases fget a t with
      | bool b =>
        dsimp only
        by_cases e : b = want
        · rw [if_pos e]
          subst e
          cases b <;> exact go _
        · rw [if_neg e]
          have : (Bool.rec (motive := fun _ => Bool) (!want) want b) = false := by cases b <;> cases want <;> first | rfl | exact absurd rfl e
          rw [this]
          exact ops_rep h l _ r
      | tuple vs =>
        cases vs with
        | nil => dsimp only; exact ops_rep h l _ r
        | cons => trivial
      | _ => trivial

theorem then_rep {x : RK (AExit × AAct)} {y : R (AExit × AAct)} {f : AAct → MK (AExit × AAct)} {g : AAct → M (AExit × AAct)} (h : RepR x y) (k : ∀ a τ σ, Rep τ σ → RepR (f a τ) (g a σ)) : RepR (thenK x f) (thenM y g) := by
  cases x with
  | bad => trivial
  | panic v τ => obtain ⟨σ, rfl, r⟩ := h; exact ⟨σ, rfl, r⟩
  | ok p τ =>
    obtain ⟨σ, rfl, r⟩ := h
    obtain ⟨e, a⟩ := p
    cases e with
    | norm => exact k a τ σ r
    | _ => exact ⟨σ, rfl, r⟩

theorem loop_rep {f : AAct → MK (AExit × AAct)} {g : AAct → M (AExit × AAct)} (k : ∀ a τ σ, Rep τ σ → RepR (f a τ) (g a σ)) : ∀ n a τ σ, Rep τ σ → RepR (loopK f n a τ) (loopN g n a σ)
  | 0, _, _, _, _ => trivial
  | n + 1, a, τ, σ, r => then_rep (k a τ σ r) (loop_rep k n)

theorem code_rep (h : CallRep c d) (n : Nat) : ∀ (x : ICode) (a : AAct) (τ : KS) (σ : ASt), Rep τ σ → RepR (x.evK n c a τ) (x.ev n d a σ)
  | .skip, a, τ, σ, r => ⟨σ, rfl, r⟩
  | .ops l live, a, τ, σ, r => by
    have ho := ops_rep h l a.a r
    show RepR (opsK l live a.d (evOpsK c l a.a τ)) (opsM l live a.d (evOps d l a.a σ))
    cases hv : evOpsK c l a.a τ with
    | bad => trivial
    | panic v τ' => rw [hv] at ho; obtain ⟨σ', h1, h2⟩ := ho; rw [h1]; exact ⟨σ', rfl, h2⟩
    | ok p τ' =>
      rw [hv] at ho
      obtain ⟨σ', h1, h2⟩ := ho
      rw [h1]
      obtain ⟨e, b⟩ := p
      cases e <;> (try simp only [opsK, restrictF_eq]) <;> exact ⟨σ', rfl, h2⟩
  | .defer x args, a, τ, σ, r => by
    show RepR (defK (x.evF a.a) (mapF (IOpd.evF a.a) args) a τ) ((ICode.defer x args).ev n d a σ)
    rw [mapF_eq, evF1, evF_opd]
    simp only [ICode.ev, defK]
    cases x.ev a.a <;> first | trivial | exact ⟨σ, rfl, r⟩
  | .seq x y, a, τ, σ, r => then_rep (code_rep h n x a τ σ r) (fun a τ σ r => code_rep h n y a τ σ r)
  | .cond b x y, a, τ, σ, r => by
    show RepR (ifK (b.evF a.a) x.codeK y.codeK n c a τ) ((ICode.cond b x y).ev n d a σ)
    rw [evF1]
    simp only [ICode.ev, ifK]
    cases b.ev a.a with
    | bool b => cases b <;> first | exact code_rep h n x a τ σ r | exact code_rep h n y a τ σ r
    | _ => trivial
  | .block id x, a, τ, σ, r => by
    have ho := code_rep h n x a τ σ r
    show RepR (blockK id (x.evK n c a τ)) (blockM id (x.ev n d a σ))
    cases hv : x.evK n c a τ with
    | bad => trivial
    | panic v τ' => rw [hv] at ho; obtain ⟨σ', h1, h2⟩ := ho; rw [h1]; exact ⟨σ', rfl, h2⟩
    | ok p τ' =>
      rw [hv] at ho
      obtain ⟨σ', h1, h2⟩ := ho
      rw [h1]
      obtain ⟨e, b⟩ := p
      cases e with
      | exit i =>
        simp only [blockK, blockM]
        by_cases hi : i = id
        · rw [if_pos hi, if_pos hi]; exact ⟨σ', rfl, h2⟩
        · rw [if_neg hi, if_neg hi]; exact ⟨σ', rfl, h2⟩
      | _ => exact ⟨σ', rfl, h2⟩
  | .loop live x, a, τ, σ, r =>
    loop_rep (f := fun a => x.evK n c ⟨restrictF live a.a, a.d⟩) (g := fun a => x.ev n d ⟨restrict live a.a, a.d⟩) (fun a τ σ r => by simp only [restrictF_eq]; exact code_rep h n x ⟨restrict live a.a, a.d⟩ τ σ r) n a τ σ r
  | .exit id, a, τ, σ, r => ⟨σ, rfl, r⟩
  | .ret, a, τ, σ, r => ⟨σ, rfl, r⟩

end

theorem res_one {a : Frame} {τ : KS} {σ : ASt} (r : Rep τ σ) {x : IRes} {v : AVal} (h : res1K a τ x = some v) : x.ev a σ = some v := by
  cases x with
  | slot t => simp only [res1K, fgetF_eq] at h; exact h
  | cell t n =>
    have h : (QOp.load n (.t t)).evG τ.t.get (IOpd.evF a) = some v := h
    rw [evF_opd] at h
    exact evG_ok r.get h

theorem res_many {a : Frame} {τ : KS} {σ : ASt} (r : Rep τ σ) : ∀ {rs : List IRes} {vs : List AVal}, rs.mapM (res1K a τ) = some vs → (rs.mapM fun x => IRes.ev a σ x) = some vs
  | [], vs, h => h
  | x :: rs, vs, h => by
    simp only [List.mapM_cons, Option.pure_def, Option.bind_eq_bind, Option.bind_eq_some_iff] at h ⊢
    obtain ⟨v, h1, us, h2, h3⟩ := h
    exact ⟨v, res_one r h1, us, res_many r h2, h3⟩

theorem res_rep {rs : List IRes} {a : Frame} {τ : KS} {σ : ASt} (r : Rep τ σ) {v : AVal} (h : resK rs a τ = some v) : resOf rs a σ = some v := by
  unfold resK at h
  unfold resOf
  split at h
  · exact res_one r h
  · rename_i hne
    simp only [Option.map_eq_some_iff] at h
    obtain ⟨vs, h1, rfl⟩ := h
    split
    · exact absurd rfl (hne _)
    · rw [res_many r h1]; rfl

noncomputable def DFn.ev (call : Call) : DFn → List AVal → Mode → M Mode
  | .plain fn => dpFun 8 call fn
  | .recs fn => dpRec 8 call fn

/-- The same functions, by the kernel's evaluator and by the layer's. -/
structure EnvRep (E : EnvK) (F : Env) : Prop where
  fns : E.fns = F.fns
  prim : ∀ f p, E.prim f = some p → ∃ q, F.prim f = some q ∧ ∀ args τ σ, Rep τ σ → RepR (p args τ) (q args σ)
  noPrim : ∀ f, E.prim f = none → F.prim f = none
  dfn : ∀ k d, E.dfn k = some d → ∃ call, F.dp k = some (d.ev call)

theorem dp_rep {d : DFn} {call : Call} {args : List AVal} {m : Mode} {τ : KS} {σ : ASt} (r : Rep τ σ) : RepR (dpK 8 d args m τ) (d.ev call args m σ) := by
  have fin : ∀ (rs : List IRes) (a : Frame) (m : Mode) (τ' : KS) (σ' : ASt), Rep τ' σ' → RepR (match resK rs a τ' with | some _ => RK.ok m τ' | none => .bad) (match resOf rs a σ' with | some _ => R.ok m σ' | none => .bad) := by
    intro rs a m τ' σ' h2
    cases hv : resK rs a τ' with
    | none => trivial
    | some v => rw [res_rep h2 hv]; exact ⟨σ', rfl, h2⟩
  cases d with
  | plain fn =>
    have ho := code_rep (noCall_rep call) 8 fn.body ⟨enter args, []⟩ τ σ r
    simp only [dpK, DFn.ev, dpFun]
    cases hv : fn.body.evK 8 noCall ⟨enter args, []⟩ τ with
    | bad => trivial
    | panic v τ' => trivial
    | ok p τ' =>
      rw [hv] at ho
      obtain ⟨σ', h1, h2⟩ := ho
      rw [h1]
      obtain ⟨e, a, ds⟩ := p
      cases ds with
      | cons => cases e <;> trivial
      | nil => cases e <;> first | exact fin _ _ _ _ _ h2 | trivial
  | recs fn =>
    have ho := ops_rep (noCall_rep call) fn.ops (fput (enter args) (some fn.dst) m.found) r
    simp only [dpK, DFn.ev, dpRec]
    cases hv : evOpsK noCall fn.ops (fput (enter args) (some fn.dst) m.found) τ with
    | bad => trivial
    | panic v τ' => trivial
    | ok p τ' =>
      rw [hv] at ho
      obtain ⟨σ', h1, h2⟩ := ho
      rw [h1]
      obtain ⟨e, a⟩ := p
      cases e with
      | norm =>
        simp only
        have ho2 := code_rep (noCall_rep call) 8 fn.rest ⟨restrict fn.live a, []⟩ τ' σ' h2
        rw [restrictF_eq]
        cases hv2 : fn.rest.evK 8 noCall ⟨restrict fn.live a, []⟩ τ' with
        | bad => trivial
        | panic v τ2 => trivial
        | ok p2 τ2 =>
          rw [hv2] at ho2
          obtain ⟨σ2, h3, h4⟩ := ho2
          rw [h3]
          obtain ⟨e, a, ds⟩ := p2
          cases ds with
          | cons => cases e <;> trivial
          | nil => cases e <;> first | exact fin _ _ _ _ _ h4 | trivial
      | _ => trivial

theorem runD_rep {E : EnvK} {F : Env} (h : EnvRep E F) : ∀ (ds : List (AVal × List AVal)) (m : Mode) (τ : KS) (σ : ASt), Rep τ σ → RepR (runDK E 8 ds m τ) (runD F.dp ds m σ)
  | [], m, τ, σ, r => ⟨σ, rfl, r⟩
  | (f, args) :: ds, m, τ, σ, r => by
    simp only [runDK, runD]
    cases f with
    | func fn first cap =>
      cases fn with
      | func k =>
        simp only
        cases hd : E.dfn k with
        | none => trivial
        | some d =>
          obtain ⟨call, h1⟩ := h.dfn k d hd
          rw [h1]
          simp only
          have ho := dp_rep (d := d) (call := call) (args := first ++ args ++ cap) (m := m) r
          cases hv : dpK 8 d (first ++ args ++ cap) m τ with
          | bad => trivial
          | panic v τ' => trivial
          | ok m' τ' =>
            rw [hv] at ho
            obtain ⟨σ', h1, h2⟩ := ho
            rw [h1]
            exact runD_rep h ds m' τ' σ' h2
      | _ => trivial
    | _ => trivial

theorem leave_rep {rs : List IRes} {a : Frame} {x : RK Mode} {y : R Mode} (h : RepR x y) : RepR (leaveK rs a x) (y.bind fun m => leave rs a m) := by
  cases x with
  | bad => trivial
  | panic v τ => trivial
  | ok m τ =>
    obtain ⟨σ, rfl, r⟩ := h
    cases m with
    | some v => exact ⟨σ, rfl, r⟩
    | none =>
      simp only [leaveK, R.bind_ok, leave]
      cases hv : resK rs a τ with
      | none => trivial
      | some v => rw [res_rep r hv]; exact ⟨σ, rfl, r⟩

theorem body_rep {E : EnvK} {F : Env} (h : EnvRep E F) {rs : List IRes} {x : RK (AExit × AAct)} {y : R (AExit × AAct)} (hx : RepR x y) : RepR (bodyK E rs x) (bodyM F.dp rs y) := by
  cases x with
  | bad => trivial
  | panic v τ => trivial
  | ok p τ =>
    obtain ⟨σ, rfl, r⟩ := hx
    obtain ⟨e, a⟩ := p
    cases e with
    | norm => exact leave_rep (runD_rep h a.d none τ σ r)
    | ret => exact leave_rep (runD_rep h a.d none τ σ r)
    | panic v => exact leave_rep (runD_rep h a.d (some v) τ σ r)
    | exit i => trivial

theorem evFK_rep {E : EnvK} {F : Env} (h : EnvRep E F) : ∀ n, CallRep (evFK E n) (evF F n)
  | 0 => fun _ _ _ _ _ => trivial
  | n + 1 => fun f args τ σ r => by
    unfold evFK evF
    cases hp : E.prim f with
    | some p =>
      obtain ⟨q, h1, h2⟩ := h.prim f p hp
      rw [h1]
      exact h2 args τ σ r
    | none =>
      rw [h.noPrim f hp]
      simp only
      rw [h.fns]
      cases F.fns f with
      | none => trivial
      | some fn => exact body_rep h (code_rep (evFK_rep h n) n fn.body _ τ σ r)

/-- What the kernel has reckoned of a call. -/
theorem evL_of_K {E : EnvK} {F : Env} (h : EnvRep E F) {n : Nat} {f : FuncId} {args : List AVal} {τ : KS} {σ : ASt} (r : Rep τ σ) {v : AVal} {τ' : KS} (hk : evFK E n f args τ = .ok v τ') : ∃ σ', evL F f args σ = .ok v σ' ∧ Rep τ' σ' := by
  have := evFK_rep h n f args τ σ r
  rw [hk] at this
  obtain ⟨σ', h1, h2⟩ := this
  refine ⟨σ', ?_, h2⟩
  have := lim_of (evL_chain F f args σ) (n := n) (by rw [h1]; simp)
  unfold evL
  rw [this, h1]

end Go.Am

namespace Go.Am
open Go Go.RowKit

/-- A call from a memory of `n` objects of which `keep` is known: its value, how many objects there are then; what was known is known still. -/
structure Memo where
  f : FuncId
  args : List AVal
  n : Nat
  keep : List (Nat × AObj)
  v : AVal
  n' : Nat

noncomputable def keepT (l : List (Nat × AObj)) : KT := List.rec (motive := fun _ => KT) .leaf (fun p _ ih => KT.set p.2 20 ih p.1) l

def sameO (o : Option AObj) (p : AObj) : Bool := match o, p with
  | some (.cells t cs), .cells t' cs' => Nat.beq t t' && all2 (sameV 20) cs cs'
  | some (.tok n t), .tok n' t' => Nat.beq n n' && Nat.beq t t'
  | _, _ => false

noncomputable def keptK (τ : KS) (l : List (Nat × AObj)) : Bool := List.rec (motive := fun _ => Bool) true (fun p _ ih => Bool.rec (motive := fun _ => Bool) false (Bool.rec (motive := fun _ => Bool) false ih (Nat.blt p.1 524287)) (sameO (τ.t.get p.1) p.2)) l

noncomputable def Memo.start (m : Memo) : KS := ⟨m.n, keepT m.keep⟩
noncomputable def Memo.endS (m : Memo) : KS := ⟨m.n', keepT m.keep⟩

noncomputable def Memo.chk (m : Memo) (r : RK AVal) : Bool := match r with
  | .ok v τ => sameV 20 v m.v && (Nat.beq τ.n m.n' && (Nat.blt m.n 524288 && keptK τ m.keep))
  | _ => false

theorem sameO_eq {o : Option AObj} {p : AObj} (h : sameO o p = true) : o = some p := by
  unfold sameO at h
  split at h
  · simp only [Bool.and_eq_true] at h
    rw [beq_nat h.1, all2_eq (fun a b => sameV_eq 20) h.2]
  · simp only [Bool.and_eq_true] at h
    rw [beq_nat h.1, beq_nat h.2]
  · cases h

theorem kept_all {τ : KS} : ∀ {l : List (Nat × AObj)}, keptK τ l = true → ∀ p ∈ l, τ.t.get p.1 = some p.2 ∧ p.1 < 524287
  | [], _, _, hp => by cases hp
  | q :: l, h, p, hp => by
    have e : keptK τ (q :: l) = Bool.rec (motive := fun _ => Bool) false (Bool.rec (motive := fun _ => Bool) false (keptK τ l) (Nat.blt q.1 524287)) (sameO (τ.t.get q.1) q.2) := rfl
    rw [e] at h
    cases h1 : sameO (τ.t.get q.1) q.2 with
    | false => rw [h1] at h; cases h
    | true =>
      rw [h1] at h
      cases h2 : Nat.blt q.1 524287 with
      | false => rw [h2] at h; cases h
      | true =>
        rw [h2] at h
        rcases List.mem_cons.1 hp with rfl | hp
        · exact ⟨sameO_eq h1, blt_lt h2⟩
        · exact kept_all h p hp

theorem keep_known {l : List (Nat × AObj)} {σ : ASt} (hb : ∀ p ∈ l, p.1 < 524287) (h : ∀ p ∈ l, σ[p.1]? = some p.2) : Known (keepT l).get σ := by
  induction l with
  | nil => intro g o hg; cases hg
  | cons p l ih =>
    have ih := ih (fun q hq => hb q (List.mem_cons_of_mem _ hq)) (fun q hq => h q (List.mem_cons_of_mem _ hq))
    have hp := hb p List.mem_cons_self
    intro g o hg
    have hg : (KT.set p.2 20 (keepT l) p.1).get g = some o := hg
    rw [get_set _ _ _ _ _ (by omega)] at hg
    by_cases e : g = p.1
    · subst e; rw [if_pos rfl] at hg; cases hg; exact h p List.mem_cons_self
    · rw [if_neg e] at hg; exact ih g o hg

/-- What a kept call says of the layer's call. -/
def Memo.Ok (F : Env) (m : Memo) : Prop := (∀ p ∈ m.keep, p.1 < 524287) ∧ ∀ σ, σ.length = m.n → (∀ p ∈ m.keep, σ[p.1]? = some p.2) → ∃ σ', evL F m.f m.args σ = .ok m.v σ' ∧ σ'.length = m.n' ∧ ∀ p ∈ m.keep, σ'[p.1]? = some p.2

theorem Memo.start_rep {m : Memo} {σ : ASt} (hs : m.n < 524288) (hb : ∀ p ∈ m.keep, p.1 < 524287) (hn : σ.length = m.n) (h : ∀ p ∈ m.keep, σ[p.1]? = some p.2) : Rep m.start σ := ⟨hn.symm, hs, keep_known hb h⟩

theorem memo_of_rep {F : Env} {m : Memo} {c : RK AVal} (hc : m.chk c = true) (h : ∀ σ, Rep m.start σ → RepR c (evL F m.f m.args σ)) : m.Ok F := by
  unfold Memo.chk at hc
  split at hc
  · rename_i v τ
    simp only [Bool.and_eq_true] at hc
    obtain ⟨h1, h2, h3, h4⟩ := hc
    have hv := sameV_eq 20 h1
    have hk := kept_all h4
    refine ⟨fun p hp => (hk p hp).2, fun σ hn hs => ?_⟩
    obtain ⟨σ', e, r⟩ := h σ (Memo.start_rep (blt_lt h3) (fun p hp => (hk p hp).2) hn hs)
    refine ⟨σ', by rw [e, hv], by rw [← r.len]; exact beq_nat h2, fun p hp => r.get _ _ (hk p hp).1⟩
  · cases hc

/-- By the evaluator alone. -/
theorem memo_ok {E : EnvK} {F : Env} (hE : EnvRep E F) {m : Memo} {n : Nat} (hc : m.chk (evFK E n m.f m.args m.start) = true) : m.Ok F :=
  memo_of_rep hc fun σ r => by
    have := evFK_rep hE n m.f m.args m.start σ r
    cases hv : evFK E n m.f m.args m.start with
    | bad => trivial
    | panic v τ =>
      rw [hv] at this
      obtain ⟨σ', h1, h2⟩ := this
      refine ⟨σ', ?_, h2⟩
      have := lim_of (evL_chain F m.f m.args σ) (n := n) (by rw [h1]; simp)
      unfold evL
      rw [this, h1]
    | ok v τ => exact evL_of_K hE r hv

noncomputable def memoK (tab : List Memo) : CallK := List.rec (motive := fun _ => CallK) (fun _ _ _ => .bad) (fun m _ ih f args τ =>
  Bool.rec (motive := fun _ => RK AVal) (ih f args τ) (.ok m.v m.endS) (Nat.beq f m.f && (Nat.beq τ.n m.n && (Nat.blt m.n' 524288 && (keptK τ m.keep && all2 (sameV 20) args m.args))))) tab

theorem memo_rep {F : Env} : ∀ {tab : List Memo}, (∀ m ∈ tab, m.Ok F) → CallRep (memoK tab) (evL F)
  | [], _ => fun _ _ _ _ _ => trivial
  | m :: tab, h => fun f args τ σ r => by
    have e : memoK (m :: tab) f args τ = Bool.rec (motive := fun _ => RK AVal) (memoK tab f args τ) (.ok m.v m.endS) (Nat.beq f m.f && (Nat.beq τ.n m.n && (Nat.blt m.n' 524288 && (keptK τ m.keep && all2 (sameV 20) args m.args)))) := rfl
    rw [e]
    cases hb : (Nat.beq f m.f && (Nat.beq τ.n m.n && (Nat.blt m.n' 524288 && (keptK τ m.keep && all2 (sameV 20) args m.args)))) with
    | false => exact memo_rep (fun m hm => h m (List.mem_cons_of_mem _ hm)) f args τ σ r
    | true =>
      simp only [Bool.and_eq_true] at hb
      obtain ⟨h1, h2, h3, h4, h5⟩ := hb
      obtain ⟨hk, ho⟩ := h m List.mem_cons_self
      obtain ⟨σ', e1, e2, e3⟩ := ho σ (by rw [← r.len]; exact beq_nat h2) (fun p hp => r.get _ _ (kept_all h4 p hp).1)
      rw [beq_nat h1, all2_eq (fun a b => sameV_eq 20) h5]
      exact ⟨σ', e1, e2.symm, blt_lt h3, keep_known hk e3⟩

/-- A function's body by calls that are known. -/
theorem evL_of_call {E : EnvK} {F : Env} (hE : EnvRep E F) {c : CallK} (hc : CallRep c (evL F)) {f : FuncId} {fn : IFunc} (hp : F.prim f = none) (hf : F.fns f = some fn) (n : Nat) {args : List AVal} {τ : KS} {σ : ASt} (r : Rep τ σ) :
    RepR (bodyK E fn.res (fn.body.evK n c ⟨enter args, []⟩ τ)) (evL F f args σ) := by
  rw [evL_fn hp hf]
  refine body_rep hE ?_
  have := code_rep hc n fn.body ⟨enter args, []⟩ τ σ r
  cases hv : fn.body.evK n c ⟨enter args, []⟩ τ with
  | bad => trivial
  | panic v τ' =>
    rw [hv] at this
    obtain ⟨σ', h1, h2⟩ := this
    refine ⟨σ', ?_, h2⟩
    have := lim_of (code_chain (evL F) fn.body ⟨enter args, []⟩ σ) (n := n) (by rw [h1]; simp)
    unfold ICode.evL
    rw [this, h1]
  | ok v τ' =>
    rw [hv] at this
    obtain ⟨σ', h1, h2⟩ := this
    refine ⟨σ', ?_, h2⟩
    have := lim_of (code_chain (evL F) fn.body ⟨enter args, []⟩ σ) (n := n) (by rw [h1]; simp)
    unfold ICode.evL
    rw [this, h1]

theorem memo_by {E : EnvK} {F : Env} (hE : EnvRep E F) {tab : List Memo} (ht : ∀ m ∈ tab, m.Ok F) {m : Memo} {fn : IFunc} (hp : F.prim m.f = none) (hf : F.fns m.f = some fn) (n : Nat) (hc : m.chk (bodyK E fn.res (fn.body.evK n (memoK tab) ⟨enter m.args, []⟩ m.start)) = true) : m.Ok F :=
  memo_of_rep hc fun _ r => evL_of_call hE (memo_rep ht) hp hf n r

theorem evFK_repL {E : EnvK} {F : Env} (h : EnvRep E F) (n : Nat) : CallRep (evFK E n) (evL F) := fun f args τ σ r => by
  have := evFK_rep h n f args τ σ r
  cases hv : evFK E n f args τ with
  | bad => trivial
  | panic v τ' =>
    rw [hv] at this
    obtain ⟨σ', h1, h2⟩ := this
    refine ⟨σ', ?_, h2⟩
    have := lim_of (evL_chain F f args σ) (n := n) (by rw [h1]; simp)
    unfold evL
    rw [this, h1]
  | ok v τ' => exact evL_of_K h r hv

/-- The one, or else the other. -/
noncomputable def orK (c c' : CallK) : CallK := fun f args τ => match c f args τ with | .bad => c' f args τ | r => r

theorem orK_rep {c c' : CallK} {d : Call} (h : CallRep c d) (h' : CallRep c' d) : CallRep (orK c c') d := fun f args τ σ r => by
  have h1 := h f args τ σ r
  have h2 := h' f args τ σ r
  unfold orK
  cases hv : c f args τ with
  | bad => exact h2
  | panic v τ' => rw [hv] at h1; exact h1
  | ok v τ' => rw [hv] at h1; exact h1

theorem memo_or {E : EnvK} {F : Env} (hE : EnvRep E F) {tab : List Memo} (ht : ∀ m ∈ tab, m.Ok F) {m : Memo} {fn : IFunc} (hp : F.prim m.f = none) (hf : F.fns m.f = some fn) (n : Nat) (hc : m.chk (bodyK E fn.res (fn.body.evK n (orK (memoK tab) (evFK E n)) ⟨enter m.args, []⟩ m.start)) = true) : m.Ok F :=
  memo_of_rep hc fun _ r => evL_of_call hE (orK_rep (memo_rep ht) (evFK_repL hE n)) hp hf n r

end Go.Am

