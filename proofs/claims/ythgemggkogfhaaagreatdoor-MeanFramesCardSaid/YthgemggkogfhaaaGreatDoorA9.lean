/-
  Operations in no order. Conditions: none.
-/
import Derived.Test.YthgemggkogfhaaaGreatDoorA8
namespace Go.Am
open Go Go.RowKit

def slotsOf : List IOpd → List Nat
  | [] => []
  | .t n :: l => n :: slotsOf l
  | _ :: l => slotsOf l

theorem slotsOf_mem {n : Nat} : ∀ {l : List IOpd}, IOpd.t n ∈ l → n ∈ slotsOf l
  | x :: l, h => by
    rcases List.mem_cons.1 h with rfl | h
    · simp [slotsOf]
    · have := slotsOf_mem h
      cases x <;> simp [slotsOf, this]

def IOper.opds (io : IOper) : List IOpd :=
  match io.act with
  | .q q => q.opds
  | .e e _ => e.opds

def IOper.looks (io : IOper) : List Nat :=
  match io.guard with
  | some (t, _) => t :: slotsOf io.opds
  | none => slotsOf io.opds

def IOper.quiet (io : IOper) : Bool :=
  match io.act with
  | .q _ => true
  | .e .. => false

abbrev Item := Nat × IOper

/-- y looks at where x puts its value. -/
def sees (x y : IOper) : Bool :=
  match x.dst with
  | some d => y.looks.contains d
  | none => false

def isPred (ops : Array Oper) (i j : Nat) : Bool :=
  match ops[j]? with
  | some o => o.after.toList.any fun e => Region.binds .any e && e.on == i
  | none => false

def clash (x y : IOper) : Bool :=
  match x.dst, y.dst with
  | some d, some e => d == e
  | _, _ => false

/-- What must be so of two operations of which the one stands ahead of the other. -/
def pairOk (ops : Array Oper) (bef : Nat → Nat → Bool) (x y : Item) : Bool :=
  x.1 != y.1 && (!sees x.2 y.2 || bef x.1 y.1) && (!sees y.2 x.2 || (!y.2.quiet && bef x.1 y.1)) && (x.2.quiet || bef x.1 y.1 || !y.2.quiet) &&
  (!clash x.2 y.2 || (!x.2.quiet && !y.2.quiet)) && !isPred ops y.1 x.1 &&
  match x.2.act, y.2.act with
  | .q q, .e .. => bef x.1 y.1 || !q.reads || ((x.2.guard.isNone || x.2.guard == y.2.guard) && x.2.dst.isSome)
  | _, _ => true

def predsIn (ops : Array Oper) (j : Nat) : Bool :=
  match ops[j]? with
  | some o => o.after.toList.all fun e => !Region.binds .any e || decide (e.on < ops.size)
  | none => false

def selfOk (ops : Array Oper) (x : Item) : Bool := !isPred ops x.1 x.1 && (!x.2.quiet || !sees x.2 x.2) && predsIn ops x.1

theorem selfOk_spec {ops : Array Oper} {x : Item} (h : selfOk ops x = true) : isPred ops x.1 x.1 = false ∧ (x.2.quiet = true → sees x.2 x.2 = false) ∧ predsIn ops x.1 = true := by
  unfold selfOk at h
  simp only [Bool.and_eq_true, Bool.or_eq_true, Bool.not_eq_true'] at h
  refine ⟨h.1.1, fun e => ?_, h.2⟩
  have := h.1.2
  rw [e] at this
  simpa using this

theorem qdsts_mem {x : IOper} {d : Nat} (hd : x.dst = some d) (hq : x.quiet = true) : ∀ {l : List IOper}, x ∈ l → d ∈ qdsts l
  | y :: l, h => by
    rcases List.mem_cons.1 h with rfl | h
    · obtain ⟨dst, act, g⟩ := x
      cases hd
      cases act with
      | q q => simp [qdsts]
      | e e p => simp [IOper.quiet] at hq
    · have := qdsts_mem hd hq h
      unfold qdsts
      split
      · rename_i e; cases e
      · rename_i e; cases e; exact List.mem_cons_of_mem _ this
      · rename_i e; cases e; exact this

theorem pw_split {α : Type} {R : α → α → Prop} {l1 l2 : List α} {x : α} (h : (l1 ++ x :: l2).Pairwise R) : (∀ y ∈ l1, R y x) ∧ ∀ y ∈ l2, R x y := by
  obtain ⟨h1, h2, h3⟩ := List.pairwise_append.1 h
  exact ⟨fun y hy => h3 y hy x (by simp), (List.pairwise_cons.1 h2).1⟩


def pendItem (x : Item) : Option (Nat × QOp) :=
  match x.2.act, x.2.dst with
  | .q q, some d => if q.reads then some (d, q) else none
  | _, _ => none

/-- An operation behind which a quiet one reads as it did. -/
def EOp.spares (e : EOp) (q : QOp) : Bool :=
  match e with
  | .set _ | .alloc .. | .box .. | .bslice .. | .mkmap | .mkslice .. | .fillA .. | .fillS .. | .fillM _ => true
  | .mapupd .. => match q with
    | .load .. | .slArr .. | .len .str _ | .len .slice _ => true
    | _ => false
  | _ => false

def pendOf (e : EOp) (bef : Nat → Nat → Bool) (i : Nat) : List Item → List (Nat × QOp)
  | [] => []
  | x :: l => if bef x.1 i then pendOf e bef i l else match pendItem x with
    | some p => if e.spares p.2 then pendOf e bef i l else p :: pendOf e bef i l
    | none => pendOf e bef i l

theorem pendOf_mem {e : EOp} {bef : Nat → Nat → Bool} {i : Nat} {x : Item} {p : Nat × QOp} : ∀ {l : List Item}, x ∈ l → bef x.1 i = false → pendItem x = some p → e.spares p.2 = false → p ∈ pendOf e bef i l
  | y :: l, h, hb, hp, hs => by
    rcases List.mem_cons.1 h with rfl | h
    · simp [pendOf, hb, hp, hs]
    · have := pendOf_mem h hb hp hs
      unfold pendOf
      split
      · exact this
      · split
        · split
          · exact this
          · exact List.mem_cons_of_mem _ this
        · exact this

def pendAt (P : Program) (fl : Option Nat) (o : Oper) (bef : Nat → Nat → Bool) (i : Nat) (pre : List Item) : List (Nat × QOp) :=
  match trOp P o with
  | some (.e e) => pendOf (e.fl fl) bef i pre
  | _ => []

/-- Operations that fill a place kept for them. -/
def EOp.isFill : EOp → Bool
  | .fillA .. | .fillS .. | .fillM _ => true
  | _ => false

/-- Two entries of one map's, a 'true' and a 'false'. -/
def mapComm : EOp → EOp → Bool
  | .mapupd .bool (.t m) (.v (.bool b)) _, .mapupd .bool (.t m') (.v (.bool b')) _ => m == m' && b != b'
  | _, _ => false

/-- Operations of which either may come first. -/
def comm (x y : IOper) : Bool :=
  match x.act, y.act with
  | .e ex [], .e ey [] => x.guard.isNone && y.guard.isNone && !sees x y && !sees y x && !clash x y && ((ex.isFill && ey.isFill) || mapComm ex ey)
  | _, _ => false

/-- What stands ahead of an operation that turns the state: such as may come behind it, and ahead of them such as are bound to stand ahead. -/
def adjOk (bef : Nat → Nat → Bool) (x : Item) : List Item → Bool
  | [] => true
  | y :: l => x.2.quiet || (comm y.2 x.2 && adjOk bef x l) || (y :: l).all fun z => z.2.quiet || bef z.1 x.1

def AdjAt (bef : Nat → Nat → Bool) (l1 : List Item) (x : Item) : Prop :=
  x.2.quiet = false → ∃ la lb, l1 = la ++ lb ∧ (∀ y ∈ lb, comm y.2 x.2 = true) ∧ ∀ z ∈ la, z.2.quiet = false → bef z.1 x.1 = true

theorem adjOk_spec {bef : Nat → Nat → Bool} {x : Item} : ∀ {pre : List Item}, adjOk bef x pre = true → AdjAt bef pre.reverse x
  | [], _, _ => ⟨[], [], rfl, by simp, by simp⟩
  | y :: l, h, hq => by
    unfold adjOk at h
    rw [hq] at h
    simp only [Bool.false_or, Bool.or_eq_true, Bool.and_eq_true] at h
    rcases h with ⟨h1, h2⟩ | h
    · obtain ⟨la, lb, e, k1, k2⟩ := adjOk_spec h2 hq
      refine ⟨la, lb ++ [y], by simp [e], fun z hz => ?_, k2⟩
      rcases List.mem_append.1 hz with hz | hz
      · exact k1 z hz
      · rw [List.mem_singleton.1 hz]; exact h1
    · refine ⟨(y :: l).reverse, [], by simp, by simp, fun z hz hzq => ?_⟩
      have := List.all_eq_true.1 h z (List.mem_reverse.1 hz)
      rw [hzq] at this
      simpa using this

def Adj (bef : Nat → Nat → Bool) (l : List Item) : Prop := ∀ l1 x l2, l = l1 ++ x :: l2 → AdjAt bef l1 x

theorem Adj.sub {bef : Nat → Nat → Bool} {l l' : List Item} (h : Adj bef l) (hs : l'.Sublist l) : Adj bef l' := by
  intro l1' x l2' e hq
  subst e
  obtain ⟨r1, r2, rfl, h1, h2⟩ := List.append_sublist_iff.1 hs
  obtain ⟨s1, s2, rfl, h3, h4⟩ := List.cons_sublist_iff.1 h2
  obtain ⟨u, v, rfl⟩ := List.append_of_mem h3
  obtain ⟨la, lb, e, k1, k2⟩ := h (r1 ++ u) x (v ++ s2) (by simp) hq
  have h5 : l1'.Sublist (la ++ lb) := e ▸ h1.trans (List.sublist_append_left r1 u)
  obtain ⟨m1, m2, rfl, h6, h7⟩ := List.sublist_append_iff.1 h5
  exact ⟨m1, m2, rfl, fun y hy => k1 y (h7.subset hy), fun z hz => k2 z (h6.subset hz)⟩

def trDraw (P : Program) (nt : Nat) (ops : Array Oper) (bef : Nat → Nat → Bool) (fl : Nat → Option Nat) : List Item → List Nat → Option (List Item)
  | _, [] => some []
  | pre, i :: l => match ops[i]? with
    | some o => match trOper P nt ops (fl i) o (pendAt P (fl i) o bef i pre) with
      | some io => if selfOk ops (i, io) && pre.all (fun x => pairOk ops bef x (i, io)) && adjOk bef (i, io) pre then (trDraw P nt ops bef fl ((i, io) :: pre) l).map fun r => (i, io) :: r else none
      | none => none
    | none => none

/-- What is known of two operations of a list of which the one stands ahead of the other. -/
def PR (ops : Array Oper) (bef : Nat → Nat → Bool) (x y : Item) : Prop :=
  pairOk ops bef x y = true ∧ ∀ e pend p, y.2.act = .e e pend → e.spares p.2 = false → bef x.1 y.1 = false → pendItem x = some p → p ∈ pend

def TrItem (P : Program) (nt : Nat) (ops : Array Oper) (x : Item) : Prop := selfOk ops x = true ∧ ∃ o pend fl, ops[x.1]? = some o ∧ trOper P nt ops fl o pend = some x.2

theorem trDraw_ok {P : Program} {nt : Nat} {ops : Array Oper} {bef : Nat → Nat → Bool} {fl : Nat → Option Nat} : ∀ (l : List Nat) (pre r : List Item), trDraw P nt ops bef fl pre l = some r →
    r.map (·.1) = l ∧ (∀ x ∈ r, TrItem P nt ops x) ∧ r.Pairwise (PR ops bef) ∧ (∀ x ∈ pre, ∀ y ∈ r, PR ops bef x y) ∧ ∀ l1 x l2, r = l1 ++ x :: l2 → AdjAt bef (pre.reverse ++ l1) x
  | [], pre, r, h => by cases h; simp
  | i :: l, pre, r, h => by
    unfold trDraw at h
    split at h
    · rename_i o ho
      split at h
      · rename_i io hio
        split at h
        · rename_i hc
          simp only [Bool.and_eq_true, List.all_eq_true] at hc
          simp only [Option.map_eq_some_iff] at h
          obtain ⟨r', h', rfl⟩ := h
          obtain ⟨k1, k2, k3, k4, k5⟩ := trDraw_ok l _ r' h'
          have hi : TrItem P nt ops (i, io) := ⟨hc.1.1, o, _, _, ho, hio⟩
          have hp : ∀ x ∈ pre, PR ops bef x (i, io) := fun x hx => ⟨hc.1.2 x hx, fun e pend p he hk hb hq => by
            obtain ⟨_, _, _, act, hact, ha⟩ := trOper_dst hio
            rw [he] at ha
            cases act with
            | q q => cases ha
            | e e' =>
              cases ha
              unfold pendAt
              rw [hact]
              exact pendOf_mem hx hb hq hk⟩
          refine ⟨by simp [k1], fun x hx => ?_, ?_, fun x hx y hy => ?_, fun l1 x l2 e => ?_⟩
          · rcases List.mem_cons.1 hx with rfl | hx
            · exact hi
            · exact k2 x hx
          · exact List.pairwise_cons.2 ⟨fun y hy => k4 _ (by simp) y hy, k3⟩
          · rcases List.mem_cons.1 hy with rfl | hy
            · exact hp x hx
            · exact k4 x (List.mem_cons_of_mem _ hx) y hy
          · cases l1 with
            | nil =>
              cases e
              simpa using adjOk_spec hc.2
            | cons z l1 =>
              cases e
              simpa using k5 l1 x l2 rfl
        · cases h
      · cases h
    · cases h

/-- Quiet operations that look into a map. -/
def QOp.ofMap : QOp → Bool
  | .lookup .. | .len .map _ => true
  | _ => false

theorem reads_mono {q : QOp} {a : Frame} {σ σ' : ASt} {v : AVal} (hc : ∀ (g : Nat) t cs, σ[g]? = some (.cells t cs) → σ'[g]? = some (.cells t cs))
    (hm : q.ofMap = true → ∀ (g : Nat) es, σ[g]? = some (.map es) → σ'[g]? = some (.map es)) (h : q.ev a σ = some v) : q.ev a σ' = some v := by
  cases q
  case load n p =>
    simp only [QOp.ev] at h ⊢
    unfold aload at h ⊢
    split at h
    · split at h
      · rename_i hg; simp only [hc _ _ _ hg]; exact h
      · cases h
    · exact h
    · cases h
  case slArr es n x lo hi =>
    simp only [QOp.ev] at h ⊢
    split at h
    · unfold aslArr at h ⊢
      split at h
      · split at h
        · rename_i hg; simp only [hc _ _ _ hg]; exact h
        · cases h
      · cases h
    · cases h
  case toU x =>
    simp only [QOp.ev] at h ⊢
    unfold atoU at h ⊢
    split at h
    · split at h
      · rename_i hg; simp only [hc _ _ _ hg]; exact h
      · cases h
    · cases h
  case fromU oks x =>
    simp only [QOp.ev] at h ⊢
    unfold afromU at h ⊢
    split at h
    · split at h
      · rename_i hg; simp only [hc _ _ _ hg]; exact h
      · cases h
    · cases h
  case lookup c z ok m k =>
    simp only [QOp.ev] at h ⊢
    unfold alookup at h ⊢
    split at h
    · cases h
    · rename_i hk
      rw [if_neg hk]
      split at h
      · split at h
        · rename_i hg; simp only [hm rfl _ _ hg]; exact h
        · cases h
      · cases h
  case len c x =>
    simp only [QOp.ev] at h ⊢
    unfold alen at h ⊢
    split at h <;> try exact h
    split at h
    · rename_i hg; simp only [hm rfl _ _ hg]; exact h
    · cases h
  all_goals exact h

theorem get_push {σ : ASt} {g : Nat} {x : AObj} (o : AObj) (hx : σ[g]? = some x) : (σ ++ [o])[g]? = some x := by
  rw [List.getElem?_append_left (lt_of_get hx)]; exact hx

theorem reads_push {q : QOp} {a : Frame} {σ : ASt} {v : AVal} (h : q.ev a σ = some v) (o : AObj) : q.ev a (σ ++ [o]) = some v :=
  reads_mono (fun _ _ _ h => get_push o h) (fun _ _ _ h => get_push o h) h

theorem reads_fill {q : QOp} {a : Frame} {σ : ASt} {v : AVal} {p : Nat} (hp : σ[p]? = some .dead) (o : AObj) (h : q.ev a σ = some v) : q.ev a (σ.set p o) = some v := by
  have key : ∀ (g : Nat) x, σ[g]? = some x → x ≠ .dead → (σ.set p o)[g]? = some x := fun g x hx hd => by
    rw [List.getElem?_set_ne (fun e => by subst e; rw [hp] at hx; cases hx; exact hd rfl)]
    exact hx
  exact reads_mono (fun g _ cs h => key g _ h (by simp)) (fun _ g es h => key g _ h (by simp)) h

theorem fill_ev {e : EOp} (hf : e.isFill = true) {call : FuncId → List AVal → M AVal} {a : Frame} {σ σ' : ASt} {v : AVal} (h : e.ev call a σ = .ok v σ') :
    ∃ j o f, o ≠ .dead ∧ σ[σ.length - j]? = some .dead ∧ v = f (σ.length - j) ∧ σ' = σ.set (σ.length - j) o ∧ ∀ call b (τ : ASt), (∀ x ∈ e.opds, x.ev b = x.ev a) → e.ev call b τ = afill j o f τ := by
  cases e <;> simp [EOp.isFill] at hf
  case fillA j t z =>
    simp only [EOp.ev] at h
    obtain ⟨h1, h2, h3⟩ := afill_inv h
    exact ⟨j, _, fun g => .ptr g 0, by simp, h1, h2, h3, fun _ _ _ _ => rfl⟩
  case fillM j =>
    simp only [EOp.ev] at h
    obtain ⟨h1, h2, h3⟩ := afill_inv h
    exact ⟨j, _, fun g => .map g, by simp, h1, h2, h3, fun _ _ _ _ => rfl⟩
  case fillS j el es z x =>
    simp only [EOp.ev] at h
    cases hx : x.ev a <;> rw [hx] at h <;> simp only [afillS] at h <;> try (cases h; done)
    rename_i k n
    split at h
    · rename_i hn
      obtain ⟨h1, h2, h3⟩ := afill_inv h
      refine ⟨j, _, fun g => .mslice g es 0 n.toNat, by simp, h1, h2, h3, fun call b τ hb => ?_⟩
      simp only [EOp.ev]
      rw [hb x (by simp [EOp.opds]), hx]
      simp only [afillS]
      rw [if_pos hn]
    · cases h

theorem spares_ev {e : EOp} {q : QOp} (hk : e.spares q = true) {call : FuncId → List AVal → M AVal} {a b : Frame} {σ σ' : ASt} {v u : AVal} (h : e.ev call a σ = .ok v σ') (hq : q.ev b σ = some u) : q.ev b σ' = some u := by
  by_cases hf : e.isFill = true
  · obtain ⟨j, o, f, _, h1, _, rfl, _⟩ := fill_ev hf h
    exact reads_fill h1 o hq
  · cases e <;> simp only [EOp.spares, Bool.false_eq_true] at hk <;> simp only [EOp.ev] at h
    case alloc t z => cases h; exact reads_push hq _
    case mkmap => cases h; exact reads_push hq _
    case set x => cases h; exact hq
    case box t x => unfold abox at h; split at h <;> cases h; exact reads_push hq _
    case bslice el es n z parts => unfold abslice at h; split at h <;> cases h; exact reads_push hq _
    case mkslice el es z x =>
      unfold amkslice at h
      split at h
      · split at h <;> cases h; exact reads_push hq _
      · cases h
    case mapupd c m k x =>
      unfold amapupd at h
      split at h
      · cases h
      · split at h
        · rename_i g hm
          split at h
          · rename_i es hg
            split at h
            · cases h
              refine reads_mono (fun g' _ cs h' => ?_) (fun ho => ?_) hq
              · rw [List.getElem?_set_ne (fun e => by subst e; rw [hg] at h'; cases h')]
                exact h'
              · exfalso
                cases q
                case lookup => cases hk
                case len c x => cases c <;> first | (simp [QOp.ofMap] at ho; done) | (simp at hk; done)
                all_goals cases ho
            · cases h
          · cases h
        · cases h
    all_goals exact absurd rfl hf

theorem fget_put {a : Frame} {d : Option Nat} {v : AVal} {t : Nat} (h : d ≠ some t) : fget (fput a d v) t = fget a t := by
  cases d with
  | none => rfl
  | some d => simp only [fput, fget]; rw [if_neg (fun e => h (by rw [e]))]

theorem fget_put_eq {a : Frame} {d : Nat} {v : AVal} : fget (fput a (some d) v) d = v := by simp [fput, fget]

theorem not_sees {x y : IOper} (h : sees x y = false) {d : Nat} (hd : x.dst = some d) : d ∉ y.looks := by
  unfold sees at h
  rw [hd] at h
  simpa using h

/-- Ends of a region in which the same is found. -/
def REq : R (AExit × Frame) → R (AExit × Frame) → Prop
  | .ok (e, a) σ, .ok (e', a') σ' => e = e' ∧ FEq a a' ∧ σ = σ'
  | .panic v σ, .panic v' σ' => v = v' ∧ σ = σ'
  | .bad, .bad => True
  | _, _ => False

theorem REq.refl : ∀ r : R (AExit × Frame), REq r r
  | .ok (_, a) _ => ⟨rfl, .refl a, rfl⟩
  | .panic _ _ => ⟨rfl, rfl⟩
  | .bad => trivial

theorem REq.trans {a b c : R (AExit × Frame)} (h : REq a b) (k : REq b c) : REq a c := by
  cases a <;> cases b <;> simp only [REq] at h <;> cases c <;> simp only [REq] at k ⊢
  · exact ⟨h.1.trans k.1, h.2.1.trans k.2.1, h.2.2.trans k.2.2⟩
  · exact ⟨h.1.trans k.1, h.2.trans k.2⟩

theorem REq.isOk {a b : R (AExit × Frame)} (h : REq a b) (k : isOk a) : isOk b := by
  cases a <;> cases b <;> simp only [REq] at h <;> first | trivial | exact k.elim

theorem evOps_feq {call : FuncId → List AVal → M AVal} : ∀ (l : List IOper) (a b : Frame) (σ : ASt), FEq a b → REq (evOps call l a σ) (evOps call l b σ)
  | [], a, b, σ, h => ⟨rfl, h, rfl⟩
  | o :: l, a, b, σ, h => by
    have go : ∀ a b : Frame, FEq a b → REq (o.go call a (evOps call l) σ) (o.go call b (evOps call l) σ) := by
      intro a b h
      unfold IOper.go
      split
      · rw [QOp.ev_congr (fun x _ => h.ev x)]
        split
        · exact evOps_feq l _ _ _ (h.put _ _)
        · trivial
      · rename_i e pend he
        rw [EOp.ev_congr (fun x _ => h.ev x)]
        split
        · rename_i v σ' hv
          have hs : stands pend a σ' = stands pend b σ' := by
            unfold stands
            congr 1
            funext p
            rw [QOp.ev_congr (fun x _ => h.ev x), h p.1]
          rw [hs]
          split
          · exact evOps_feq l _ _ _ (h.put _ _)
          · trivial
        · exact ⟨rfl, h, rfl⟩
        · trivial
    show REq (o.ev call a (evOps call l) σ) (o.ev call b (evOps call l) σ)
    unfold IOper.ev
    split
    · exact go a b h
    · rename_i t want hg
      rw [h t]
      split
      · split
        · exact go _ _ (h.put (some t) _)
        · exact evOps_feq l _ _ _ ((h.put (some t) _).put _ _)
      · exact evOps_feq l _ _ _ (h.put _ _)
      · trivial

theorem back_comm {k k' v v' : AVal} {c : KC} (hn : keyEq c k k' = some false) (hn' : keyEq c k' k = some false) (hx : ∀ x p q, keyEq c k x = some p → keyEq c k' x = some q → p = false ∨ q = false) :
    ∀ {es es1 es2 : List (AVal × AVal)} {u : AVal}, findKey c k es = some (some u) ∨ findKey c k' es = some (some u) → putBack c k v es = some es1 → putBack c k' v' es1 = some es2 → ∃ es1', putBack c k' v' es = some es1' ∧ putBack c k v es1' = some es2
  | [], es1, es2, u, hf, _, _ => by simp [findKey] at hf
  | e :: l, es1, es2, u, hf, h1, h2 => by
    simp only [putBack] at h1
    simp only [findKey] at hf
    cases hk : keyEq c k e.1 with
    | none => rw [hk] at h1; cases h1
    | some p =>
      rw [hk] at h1 hf
      cases p with
      | true =>
        simp only [Option.some.injEq] at h1
        subst h1
        simp only [putBack, hn', Option.map_eq_some_iff] at h2
        obtain ⟨l2, h2, rfl⟩ := h2
        cases hk' : keyEq c k' e.1 with
        | none =>
          exfalso
          have := keyEq_true hk
          rw [← this, hn'] at hk'; cases hk'
        | some q =>
          have : q = false := by rcases hx _ _ _ hk hk' with h | h <;> first | cases h; done | exact h
          subst this
          exact ⟨e :: l2, by simp [putBack, hk', h2], by simp [putBack, hk]⟩
      | false =>
        simp only [Option.map_eq_some_iff] at h1
        obtain ⟨l1, h1, rfl⟩ := h1
        simp only [putBack] at h2
        cases hk' : keyEq c k' e.1 with
        | none => rw [hk'] at h2; cases h2
        | some q =>
          rw [hk'] at h2 hf
          cases q with
          | true =>
            simp only [Option.some.injEq] at h2
            subst h2
            exact ⟨(k', v') :: l, by simp [putBack, hk'], by simp [putBack, hn, h1]⟩
          | false =>
            simp only [Option.map_eq_some_iff] at h2
            obtain ⟨l2, h2, rfl⟩ := h2
            obtain ⟨l1', g1, g2⟩ := back_comm hn hn' hx hf h1 h2
            exact ⟨e :: l1', by simp [putBack, hk', g1], by simp [putBack, hk, g2]⟩

theorem bool_split (x : AVal) (p q : Bool) (h : keyEq .bool (.bool true) x = some p) (h' : keyEq .bool (.bool false) x = some q) : p = false ∨ q = false := by
  cases x with
  | bool b =>
    simp only [keyEq, Option.some.injEq] at h h'
    subst h h'
    cases b <;> simp
  | _ => simp [keyEq] at h

theorem find_back {c : KC} {k k' v : AVal} (hn : keyEq c k k' = some false) : ∀ {es es1 : List (AVal × AVal)} {r : Option AVal}, putBack c k' v es = some es1 → findKey c k es = some r → (∀ x p q, keyEq c k x = some p → keyEq c k' x = some q → p = false ∨ q = false) → findKey c k es1 = some r
  | [], es1, r, h, hf, hx => by simp [putBack] at h; subst h; simp [findKey] at hf ⊢; simp [hn, hf]
  | e :: l, es1, r, h, hf, hx => by
    simp only [putBack] at h
    simp only [findKey] at hf
    cases hk' : keyEq c k' e.1 with
    | none => rw [hk'] at h; cases h
    | some q =>
      rw [hk'] at h
      cases hk : keyEq c k e.1 with
      | none => rw [hk] at hf; cases hf
      | some p =>
        rw [hk] at hf
        cases q with
        | true =>
          simp only [Option.some.injEq] at h
          subst h
          have : p = false := by rcases hx _ _ _ hk hk' with h | h <;> first | cases h; done | exact h
          subst this
          simpa [findKey, hn] using hf
        | false =>
          simp only [Option.map_eq_some_iff] at h
          obtain ⟨l1, h, rfl⟩ := h
          cases p with
          | true => simpa [findKey, hk] using hf
          | false => simp only [findKey, hk]; exact find_back hn h hf hx

theorem find_of_back {c : KC} {k k' v : AVal} (hn : keyEq c k k' = some false) : ∀ {es es1 : List (AVal × AVal)} {r : Option AVal}, putBack c k' v es = some es1 → findKey c k es1 = some r → (∀ x p q, keyEq c k x = some p → keyEq c k' x = some q → p = false ∨ q = false) →
    (∀ x, keyEq c k' x = some true → keyEq c k x = some false) → findKey c k es = some r
  | [], es1, r, h, hf, hx, hy => by simp [putBack] at h; subst h; simpa [findKey, hn] using hf
  | e :: l, es1, r, h, hf, hx, hy => by
    simp only [putBack] at h
    cases hk' : keyEq c k' e.1 with
    | none => rw [hk'] at h; cases h
    | some q =>
      rw [hk'] at h
      cases q with
      | true =>
        simp only [Option.some.injEq] at h
        subst h
        simp only [findKey, hn] at hf
        simp only [findKey, hy _ hk']
        exact hf
      | false =>
        simp only [Option.map_eq_some_iff] at h
        obtain ⟨l1, h, rfl⟩ := h
        simp only [findKey] at hf ⊢
        cases hk : keyEq c k e.1 with
        | none => rw [hk] at hf; cases hf
        | some p =>
          rw [hk] at hf
          cases p with
          | true => exact hf
          | false => exact find_of_back hn h hf hx hy

/-- The order in which a 'true' and a 'false' are entered is no matter. -/
theorem put_comm {b b' : Bool} (hb : b ≠ b') {v v' : AVal} {es es1 es2 : List (AVal × AVal)} (h1 : putKey .bool (.bool b) v es = some es1) (h2 : putKey .bool (.bool b') v' es1 = some es2) :
    ∃ es1', putKey .bool (.bool b') v' es = some es1' ∧ putKey .bool (.bool b) v es1' = some es2 := by
  have hn : keyEq .bool (.bool true) (.bool false) = some false := rfl
  have hn' : keyEq .bool (.bool false) (.bool true) = some false := rfl
  have hx := bool_split
  have hx' : ∀ x p q, keyEq .bool (.bool false) x = some p → keyEq .bool (.bool true) x = some q → p = false ∨ q = false := fun x p q h k => (bool_split x q p k h).symm
  have hy : ∀ x, keyEq .bool (.bool true) x = some true → keyEq .bool (.bool false) x = some false := fun x h => by
    cases x <;> simp [keyEq] at h ⊢
    exact h
  cases b
  · have e : b' = true := by cases b' <;> simp at hb ⊢
    subst e
    simp only [putKey, putFront] at h1 h2 ⊢
    cases hf : findKey .bool (.bool false) es with
    | none => rw [hf] at h1; cases h1
    | some r =>
      rw [hf] at h1
      cases r with
      | none =>
        cases h1
        simp only [putBack, hn, Option.map_eq_some_iff] at h2
        obtain ⟨l2, h2, rfl⟩ := h2
        refine ⟨l2, h2, ?_⟩
        rw [find_back hn' h2 hf hx']
      | some u =>
        simp only at h1
        obtain ⟨l1', g1, g2⟩ := back_comm hn' hn hx' (.inl hf) h1 h2
        refine ⟨l1', g1, ?_⟩
        rw [find_back hn' g1 hf hx']
        exact g2
  · have e : b' = false := by cases b' <;> simp at hb ⊢
    subst e
    simp only [putKey, putFront] at h1 h2 ⊢
    cases hf : findKey .bool (.bool false) es1 with
    | none => rw [hf] at h2; cases h2
    | some r =>
      rw [hf] at h2
      have hf0 := find_of_back hn' h1 hf hx' hy
      cases r with
      | none =>
        cases h2
        refine ⟨(.bool false, v') :: es, by rw [hf0], ?_⟩
        simp [putBack, hn, h1]
      | some u =>
        simp only at h2
        obtain ⟨l1', g1, g2⟩ := back_comm hn hn' hx (.inr hf0) h1 h2
        exact ⟨l1', by rw [hf0]; exact g1, g2⟩

theorem comm_ev {ex ey : EOp} (h : (ex.isFill && ey.isFill || mapComm ex ey) = true) {call : FuncId → List AVal → M AVal} {a b : Frame} {σ σ1 σ2 : ASt} {u v : AVal} (h1 : ex.ev call a σ = .ok u σ1) (h2 : ey.ev call b σ1 = .ok v σ2)
    (hab : ∀ x ∈ ex.opds ++ ey.opds, x.ev b = x.ev a) : ∃ σ1', ey.ev call a σ = .ok v σ1' ∧ ∀ c : Frame, (∀ x ∈ ex.opds, x.ev c = x.ev a) → ex.ev call c σ1' = .ok u σ2 := by
  simp only [Bool.or_eq_true, Bool.and_eq_true] at h
  rcases h with ⟨hx, hy⟩ | h
  · obtain ⟨i, o, f, k1, k2, rfl, rfl, k5⟩ := fill_ev hx h1
    obtain ⟨j, p, g, q1, q2, rfl, rfl, q5⟩ := fill_ev hy h2
    simp only [List.length_set] at q2 ⊢
    have hne : σ.length - i ≠ σ.length - j := fun e => by
      rw [← e, List.getElem?_set_self (lt_of_get k2)] at q2
      cases q2; exact k1 rfl
    rw [List.getElem?_set_ne hne] at q2
    refine ⟨σ.set (σ.length - j) p, ?_, fun c hc => ?_⟩
    · rw [q5 call a σ fun x hx => (hab x (by simp [hx])).symm]
      simp only [afill, q2]
    · rw [k5 call c _ hc]
      simp only [afill, List.length_set]
      rw [List.getElem?_set_ne hne.symm, k2]
      simp only [List.set_comm _ _ hne]
  · unfold mapComm at h
    split at h
    · rename_i m b1 x m' b2 y
      simp only [Bool.and_eq_true, beq_iff_eq, bne_iff_ne, ne_eq] at h
      obtain ⟨rfl, hb⟩ := h
      have em := hab (.t m) (by simp [EOp.opds])
      have ey := hab y (by simp [EOp.opds])
      have e_t : ∀ (a : Frame) n, (IOpd.t n).ev a = fget a n := fun _ _ => rfl
      have e_v : ∀ (a : Frame) v, (IOpd.v v).ev a = v := fun _ _ => rfl
      simp only [EOp.ev, e_t, e_v] at h1 h2 em ⊢
      rw [em, ey] at h2
      unfold amapupd at h1 h2
      split at h1
      · cases h1
      · split at h1
        · rename_i g hm
          rw [hm] at h2
          split at h1
          · rename_i es hg
            split at h1
            · rename_i es1 hp1
              cases h1
              have hlt := lt_of_get hg
              simp only [List.getElem?_set_self hlt] at h2
              simp only [keyOk, keyEq, decide_true, Option.isSome_some, Bool.true_eq_false, if_false] at h2
              split at h2
              · rename_i es2 hp2
                cases h2
                obtain ⟨es1', g1, g2⟩ := put_comm (fun e => hb (by simpa using e)) hp1 hp2
                refine ⟨σ.set g (.map es1'), ?_, fun c hc => ?_⟩
                · rw [hm]
                  simp [amapupd, keyOk, keyEq, hg, g1]
                · have e1 := hc (.t m) (by simp [EOp.opds])
                  have e2 := hc x (by simp [EOp.opds])
                  simp only [e_t] at e1
                  rw [e1, e2, hm]
                  simp [amapupd, keyOk, keyEq, List.getElem?_set_self hlt, g2]
              · cases h2
            · cases h1
          · cases h1
        · cases h1
    · cases h

theorem comm_spec {x y : IOper} (h : comm x y = true) : ∃ ex ey, x.act = .e ex [] ∧ y.act = .e ey [] ∧ x.guard = none ∧ y.guard = none ∧ sees x y = false ∧ sees y x = false ∧ clash x y = false ∧ (ex.isFill && ey.isFill || mapComm ex ey) = true := by
  unfold comm at h
  split at h
  · rename_i ex ey hx hy
    simp only [Bool.and_eq_true, Option.isNone_iff_eq_none, Bool.not_eq_true'] at h
    obtain ⟨⟨⟨⟨⟨h1, h2⟩, h3⟩, h4⟩, h5⟩, h6⟩ := h
    exact ⟨ex, ey, hx, hy, h1, h2, h3, h4, h5, h6⟩
  · cases h

theorem evOps_plain {call : FuncId → List AVal → M AVal} {o : IOper} {e : EOp} (h : o.act = .e e []) (hg : o.guard = none) (l : List IOper) (a : Frame) (σ : ASt) :
    evOps call (o :: l) a σ = match e.ev call a σ with | .ok v σ' => evOps call l (fput a o.dst v) σ' | .panic v σ' => .ok (.panic v, a) σ' | .bad => .bad := by
  show o.ev call a (evOps call l) σ = _
  unfold IOper.ev
  rw [hg]
  simp only [IOper.go, h]
  have hs : ∀ σ' : ASt, stands [] a σ' = true := fun _ => by simp [stands]
  cases e.ev call a σ with
  | ok v σ' => simp only [hs, if_true]
  | panic v σ' => rfl
  | bad => rfl

theorem comm_quietless {ex ey : EOp} (h : (ex.isFill && ey.isFill || mapComm ex ey) = true) {call : FuncId → List AVal → M AVal} {a : Frame} {σ σ' : ASt} {v : AVal} : ex.ev call a σ ≠ .panic v σ' ∧ ey.ev call a σ ≠ .panic v σ' := by
  have key : ∀ e : EOp, (e.isFill = true ∨ ∃ c m k x, e = .mapupd c m k x) → e.ev call a σ ≠ .panic v σ' := by
    intro e he hv
    rcases he with he | ⟨c, m, k, x, rfl⟩
    · cases e <;> simp [EOp.isFill] at he <;> simp only [EOp.ev, afillS] at hv
      all_goals (repeat' split at hv)
      all_goals (first | (cases hv; done) | (simp only [afill] at hv; split at hv <;> cases hv))
    · simp only [EOp.ev, amapupd] at hv
      (repeat' split at hv) <;> cases hv
  simp only [Bool.or_eq_true, Bool.and_eq_true] at h
  rcases h with h | h
  · exact ⟨key _ (.inl h.1), key _ (.inl h.2)⟩
  · unfold mapComm at h
    split at h
    · exact ⟨key _ (.inr ⟨_, _, _, _, rfl⟩), key _ (.inr ⟨_, _, _, _, rfl⟩)⟩
    · cases h

theorem swap_req {call : FuncId → List AVal → M AVal} {x y : IOper} (h : comm y x = true) (l : List IOper) (a : Frame) (σ : ASt) (hk : isOk (evOps call (y :: x :: l) a σ)) : REq (evOps call (y :: x :: l) a σ) (evOps call (x :: y :: l) a σ) := by
  obtain ⟨ey, ex, hy, hx, gy, gx, s1, s2, s3, s4⟩ := comm_spec h
  have nop := fun (b : Frame) (τ τ' : ASt) (u : AVal) => comm_quietless s4 (call := call) (a := b) (σ := τ) (σ' := τ') (v := u)
  rw [evOps_plain hy gy] at hk ⊢
  cases h1 : ey.ev call a σ with
  | bad => rw [h1] at hk; exact hk.elim
  | panic v σ' => exact absurd h1 (nop _ _ _ _).1
  | ok u σ1 =>
    rw [h1] at hk
    simp only at hk ⊢
    rw [evOps_plain hx gx] at hk ⊢
    cases h2 : ex.ev call (fput a y.dst u) σ1 with
    | bad => rw [h2] at hk; exact hk.elim
    | panic v σ' => exact absurd h2 (nop _ _ _ _).2
    | ok v σ2 =>
      simp only
      have hopx : ∀ z ∈ ex.opds, z.ev (fput a y.dst u) = z.ev a := fun z hz => by
        cases z with
        | t n =>
          refine fget_put fun e => ?_
          refine not_sees s1 e ?_
          unfold IOper.looks IOper.opds
          rw [gx, hx]
          exact slotsOf_mem hz
        | _ => rfl
      have hopy : ∀ w : AVal, ∀ z ∈ ey.opds, z.ev (fput a x.dst w) = z.ev a := fun w z hz => by
        cases z with
        | t n =>
          refine fget_put fun e => ?_
          refine not_sees s2 e ?_
          unfold IOper.looks IOper.opds
          rw [gy, hy]
          exact slotsOf_mem hz
        | _ => rfl
      have h2' : ex.ev call a σ1 = .ok v σ2 := by rw [← h2]; exact (EOp.ev_congr hopx call σ1).symm
      obtain ⟨σ1', k1, k2⟩ := comm_ev s4 h1 h2' (fun _ _ => rfl)
      rw [evOps_plain hx gx, k1]
      simp only
      rw [evOps_plain hy gy, k2 _ (hopy v)]
      simp only
      refine evOps_feq l _ _ σ2 fun t => ?_
      cases hdy : y.dst with
      | none => cases hdx : x.dst <;> rfl
      | some dy =>
        cases hdx : x.dst with
        | none => rfl
        | some dx =>
          have hne : dy ≠ dx := fun e => by rw [clash, hdy, hdx] at s3; simp [e] at s3
          simp only [fput, fget]
          by_cases e1 : dx = t
          · subst e1; simp [hne]
          · simp [e1]

/-- An operation that may come ahead of some. -/
theorem move_req {call : FuncId → List AVal → M AVal} {x : IOper} (l : List IOper) : ∀ (m : List IOper) (a : Frame) (σ : ASt), (∀ y ∈ m, comm y x = true) → isOk (evOps call (m ++ x :: l) a σ) → REq (evOps call (m ++ x :: l) a σ) (evOps call (x :: (m ++ l)) a σ)
  | [], a, σ, _, _ => .refl _
  | y :: m, a, σ, h, hk => by
    obtain ⟨ey, ex, hy, hx, gy, gx, s1, s2, s3, s4⟩ := comm_spec (h y (by simp))
    have step : ∀ L, evOps call (y :: L) a σ = match ey.ev call a σ with | .ok v σ' => evOps call L (fput a y.dst v) σ' | .panic v σ' => .ok (.panic v, a) σ' | .bad => .bad := fun L => evOps_plain hy gy L a σ
    have h1 : REq (evOps call (y :: (m ++ x :: l)) a σ) (evOps call (y :: (x :: (m ++ l))) a σ) := by
      have hk' : isOk (evOps call (y :: (m ++ x :: l)) a σ) := hk
      rw [step] at hk'
      rw [step, step]
      cases hv : ey.ev call a σ with
      | ok v σ' =>
        rw [hv] at hk'
        exact move_req l m _ _ (fun z hz => h z (by simp [hz])) hk'
      | panic v σ' => exact .refl _
      | bad => exact .refl _
    exact h1.trans (swap_req (h y (by simp)) (m ++ l) a σ (h1.isOk hk))

/-- A quiet operation gives again what it gave. -/
def Gives1 (x : Item) (a : Frame) (σ : ASt) : Prop := ∃ q v, x.2.act = .q q ∧ x.2.qv q a σ = some v ∧ ∀ d, x.2.dst = some d → fget a d = v

theorem pre_congr {io : IOper} {a b : Frame} (h : ∀ t ∈ io.looks, fget a t = fget b t) : io.pre a = io.pre b := by
  unfold IOper.pre
  unfold IOper.looks at h
  cases hg : io.guard with
  | none => rfl
  | some p =>
    obtain ⟨t, want⟩ := p
    simp only []
    rw [h t (by rw [hg]; simp)]

theorem opds_congr {io : IOper} {a b : Frame} (h : ∀ t ∈ io.looks, fget a t = fget b t) : ∀ x ∈ io.opds, x.ev a = x.ev b := by
  intro x hx
  cases x with
  | t n =>
    refine h n ?_
    have := slotsOf_mem hx
    unfold IOper.looks
    split <;> simp [this]
  | _ => rfl

theorem qv_congr {io : IOper} {q : QOp} (hq : io.act = .q q) {a b : Frame} (h : ∀ t ∈ io.looks, fget a t = fget b t) (σ : ASt) : io.qv q a σ = io.qv q b σ := by
  unfold IOper.qv
  rw [pre_congr h, QOp.ev_congr (fun x hx => opds_congr h x (by simp [IOper.opds, hq, hx]))]

theorem quiet_of_act {io : IOper} {q : QOp} (h : io.act = .q q) : io.quiet = true := by simp [IOper.quiet, h]
theorem loud_of_act {io : IOper} {e : EOp} {p : List (Nat × QOp)} (h : io.act = .e e p) : io.quiet = false := by simp [IOper.quiet, h]

section
variable {P : Program} {w0 : World} {φ1 : Phi} {w1 : World} {nt0 nt : Nat} {ds : List Deferred}

theorem unq_feq {ls : List IOper} {e : AExit} {a b : Frame} (h : FEq a b) : FEq (unq ls e a) (unq ls e b) := by
  cases e with
  | panic v => intro t; rw [fget_unq, fget_unq, h t]
  | _ => exact h

theorem After.of_req {ls : List IOper} {r r' : R (AExit × Frame)} {Q : Exit → Act → World → Prop} (h : After w0 φ1 w1 nt ds ls r Q) (k : REq r r') : After w0 φ1 w1 nt ds ls r' Q := by
  cases r with
  | ok p σ =>
    cases r' with
    | ok p' σ' =>
      obtain ⟨e, a⟩ := p
      obtain ⟨e', a'⟩ := p'
      obtain ⟨rfl, k2, rfl⟩ := k
      intro x ac w ⟨φ, h1, h2, h3, h4, h5, h6⟩
      exact h x ac w ⟨φ, h1, h2, h3.of_feq (unq_feq k2).symm, h4, h5, h6⟩
    | _ => exact k.elim
  | panic v σ => exact h.elim
  | bad => exact h.elim

/-- What stands while a region's operations are done in whatever order. -/
structure Inv (P : Program) (w0 : World) (φ1 : Phi) (w1 : World) (nt0 nt : Nat) (ds : List Deferred) (ops : Array Oper) (bef : Nat → Nat → Bool) (call : FuncId → List AVal → M AVal) (Q : Exit → Act → World → Prop) (ls : List IOper)
    (listed : Array Bool) (pq rest : List Item) (φ : Phi) (σ : ASt) (w : World) (a b : Frame) (ac : Act) : Prop where
  size : listed.size = ops.size
  un : ∀ j, listed.getD j true = false ↔ ∃ x ∈ pq ++ rest, x.1 = j
  closed : ∀ i j, bef i j = true → listed.getD j false = true → listed.getD i false = true
  tr : ∀ x ∈ pq ++ rest, TrItem P nt0 ops x
  pw : (pq ++ rest).Pairwise (PR ops bef)
  quiet : ∀ x ∈ pq, Gives1 x a σ
  s : Sim w0 φ σ w
  x : Ext φ1 w1 φ w
  fr : FR φ w b ac.tmps
  mask : ∀ t, (∀ x ∈ pq, x.2.dst ≠ some t) → fget b t = fget a t
  hn : ac.tmps.size = nt
  hd : ac.defers = ds
  all : ∀ x ∈ pq ++ rest, x.2 ∈ ls
  adj : Adj bef (pq ++ rest)
  go : After w0 φ1 w1 nt ds ls (evOps call (rest.map (·.2)) a σ) Q

def loudHead : List Item → Prop
  | [] => True
  | x :: _ => x.2.quiet = false

variable {ls : List IOper} {ops : Array Oper} {bef : Nat → Nat → Bool} {call : FuncId → List AVal → M AVal} {Q : Exit → Act → World → Prop}

theorem pairOk_spec {x y : Item} (h : pairOk ops bef x y = true) : x.1 ≠ y.1 ∧ (sees x.2 y.2 = true → bef x.1 y.1 = true) ∧ (sees y.2 x.2 = true → y.2.quiet = false ∧ bef x.1 y.1 = true) ∧ (x.2.quiet = false → bef x.1 y.1 = true ∨ y.2.quiet = false) ∧
    (∀ d, x.2.dst = some d → y.2.dst = some d → x.2.quiet = false ∧ y.2.quiet = false) ∧ isPred ops y.1 x.1 = false ∧
    (∀ q e p, x.2.act = .q q → y.2.act = .e e p → bef x.1 y.1 = false → q.reads = true → (x.2.guard = none ∨ x.2.guard = y.2.guard) ∧ ∃ d, x.2.dst = some d) := by
  unfold pairOk at h
  simp only [Bool.and_eq_true, Bool.or_eq_true, Bool.not_eq_true', bne_iff_ne, ne_eq] at h
  obtain ⟨⟨⟨⟨⟨⟨h1, h2⟩, h3⟩, h4⟩, h5⟩, h6⟩, h7⟩ := h
  refine ⟨h1, fun e => ?_, fun e => ?_, fun e => ?_, fun d e1 e2 => ?_, h6, fun q e p e1 e2 e3 e4 => ?_⟩
  · rw [e] at h2; simpa using h2
  · rw [e] at h3; simpa using h3
  · rw [e] at h4; simpa using h4
  · have : clash x.2 y.2 = true := by simp [clash, e1, e2]
    rw [this] at h5; simpa using h5
  · rw [e1, e2] at h7
    simp only [e3, e4, Bool.or_eq_true, Bool.and_eq_true, Bool.not_eq_true', Bool.false_eq_true, false_or, Option.isNone_iff_eq_none, Option.isSome_iff_exists, Bool.true_eq_false, beq_iff_eq] at h7
    exact h7

/-- Quiet operations at the head are reckoned. -/
theorem Inv.advance {listed : Array Bool} : ∀ (rest pq : List Item) {φ : Phi} {σ : ASt} {w : World} {a b : Frame} {ac : Act}, Inv P w0 φ1 w1 nt0 nt ds ops bef call Q ls listed pq rest φ σ w a b ac →
    ∃ pq' rest' a', pq' ++ rest' = pq ++ rest ∧ loudHead rest' ∧ Inv P w0 φ1 w1 nt0 nt ds ops bef call Q ls listed pq' rest' φ σ w a' b ac
  | [], pq, φ, σ, w, a, b, ac, h => ⟨pq, [], a, rfl, trivial, h⟩
  | x :: rest, pq, φ, σ, w, a, b, ac, h => by
    cases hq : x.2.act with
    | e e p => exact ⟨pq, x :: rest, a, rfl, loud_of_act hq, h⟩
    | q q =>
      have hgo : After w0 φ1 w1 nt ds ls (x.2.ev call a (evOps call (rest.map (·.2))) σ) Q := h.go
      obtain ⟨v, a', k1, k2, k3⟩ := ev_quiet hq hgo.isOk
      rw [k2] at hgo
      have heq : (pq ++ [x]) ++ rest = pq ++ x :: rest := by simp
      have hx : x.2.quiet = true := quiet_of_act hq
      have hself : sees x.2 x.2 = false := (selfOk_spec (h.tr x (by simp)).1).2.1 hx
      have look : ∀ y : IOper, sees x.2 y = false → ∀ t ∈ y.looks, fget a' t = fget a t := fun y hy t ht => by
        rw [k3 t, fget_put fun e => not_sees hy e ht]
      have hinv : Inv P w0 φ1 w1 nt0 nt ds ops bef call Q ls listed (pq ++ [x]) rest φ σ w a' b ac := by
        refine ⟨h.size, heq ▸ h.un, h.closed, heq ▸ h.tr, heq ▸ h.pw, fun y hy => ?_, h.s, h.x, h.fr, fun t ht => ?_, h.hn, h.hd, heq ▸ h.all, heq ▸ h.adj, hgo⟩
        · rcases List.mem_append.1 hy with hy | hy
          · obtain ⟨q', v', g1, g2, g3⟩ := h.quiet y hy
            have hp := pairOk_spec ((List.pairwise_append.1 h.pw).2.2 y hy x (by simp)).1
            have hs : sees x.2 y.2 = false := by
              cases hs : sees x.2 y.2 with
              | false => rfl
              | true => have := (hp.2.2.1 hs).1; rw [hx] at this; cases this
            refine ⟨q', v', g1, ?_, fun d hd => ?_⟩
            · rw [qv_congr g1 (look y.2 hs)]; exact g2
            · rw [k3 d, fget_put, g3 d hd]
              intro e
              have := (hp.2.2.2.2.1 d hd e).2
              rw [hx] at this; cases this
          · rcases List.mem_singleton.1 hy with rfl
            refine ⟨q, v, hq, ?_, fun d hd => ?_⟩
            · rw [qv_congr hq (look y.2 hself)]; exact k1
            · rw [k3 d, hd, fget_put_eq]
        · rw [k3 t, fget_put (ht x (by simp)), h.mask t fun y hy => ht y (by simp [hy])]
      obtain ⟨pq', rest', a'', e1, e2, e3⟩ := Inv.advance rest (pq ++ [x]) hinv
      exact ⟨pq', rest', a'', by rw [e1, heq], e2, e3⟩

theorem getD_true_false {l : Array Bool} {j : Nat} (h : l.getD j true = false) : l.getD j false = false := by
  rcases Nat.lt_or_ge j l.size with h' | h'
  · simp only [Array.getD_eq_getD_getElem?, Array.getElem?_eq_getElem h', Option.getD_some] at h ⊢; exact h
  · simp [Array.getElem?_eq_none h'] at h

theorem getD_false_true {l : Array Bool} {j : Nat} (h : l.getD j false = true) : l.getD j true = true := by
  rcases Nat.lt_or_ge j l.size with h' | h'
  · simp only [Array.getD_eq_getD_getElem?, Array.getElem?_eq_getElem h', Option.getD_some] at h ⊢; exact h
  · simp [Array.getElem?_eq_none h'] at h

/-- One more is done. -/
theorem listed_set {listed : Array Bool} {l l' : List Item} {x : Item} (un : ∀ j, listed.getD j true = false ↔ ∃ y ∈ l, y.1 = j) (hx : x ∈ l) (hl : ∀ y ∈ l', y ∈ l) (hne : ∀ y ∈ l', y.1 ≠ x.1) (hall : ∀ y ∈ l, y ≠ x → y ∈ l') :
    ∀ j, (listed.setIfInBounds x.1 true).getD j true = false ↔ ∃ y ∈ l', y.1 = j := by
  intro j
  by_cases hj : x.1 = j
  · subst hj
    have h1 := (un x.1).2 ⟨x, hx, rfl⟩
    have hlt : x.1 < listed.size := by
      rcases Nat.lt_or_ge x.1 listed.size with h' | h'
      · exact h'
      · simp [Array.getElem?_eq_none h'] at h1
    constructor
    · intro h
      simp [hlt] at h
    · rintro ⟨y, hy, e⟩
      exact absurd e (hne y hy)
  · rw [getD_set_ne true hj, un]
    constructor
    · rintro ⟨y, hy, e⟩
      exact ⟨y, hall y hy (fun h => hj (h ▸ e)), e⟩
    · rintro ⟨y, hy, e⟩
      exact ⟨y, hl y hy, e⟩

theorem closed_set {listed : Array Bool} {j : Nat} (closed : ∀ i j, bef i j = true → listed.getD j false = true → listed.getD i false = true) (hj : ∀ i, bef i j = true → listed.getD i false = true) :
    ∀ i k, bef i k = true → (listed.setIfInBounds j true).getD k false = true → (listed.setIfInBounds j true).getD i false = true := by
  intro i k hb hk
  refine getD_set_true ?_
  by_cases h : j = k
  · subst h; exact hj i hb
  · rw [getD_set_ne false h] at hk
    exact closed i k hb hk

/-- A REGION IN WHATEVER ORDER. -/
theorem draw_any (hle : nt0 ≤ nt) (hc : CallOk P w0 call) (hb : ∀ j o, ops[j]? = some o → ∀ i, bef i j = true → ∃ e ∈ o.after, Region.binds .any e = true ∧ (i = e.on ∨ bef i e.on = true)) :
    ∀ (fuel : Nat) (listed : Array Bool) (pq rest : List Item) {φ : Phi} {σ : ASt} {w : World} {a b : Frame} {ac : Act}, fuel = (pq ++ rest).length → Inv P w0 φ1 w1 nt0 nt ds ops bef call Q ls listed pq rest φ σ w a b ac →
      wpAny P .any ops Q fuel listed ac w := by
  intro fuel
  induction fuel with
  | zero =>
    intro listed pq rest φ σ w a b ac hf h
    have h0 : pq ++ rest = [] := List.length_eq_zero_iff.1 hf.symm
    obtain ⟨rfl, rfl⟩ := List.append_eq_nil_iff.1 h0
    refine ⟨?_, ?_⟩
    · refine List.eq_nil_iff_forall_not_mem.2 fun j hj => ?_
      obtain ⟨h1, _⟩ := mem_ready.1 hj
      obtain ⟨x, hx, _⟩ := (h.un j).1 h1
      simp at hx
    · exact h.go .normal ac w ⟨φ, h.x, h.s, h.fr.of_feq fun t => h.mask t (by simp), h.hn, h.hd, trivial⟩
  | succ fuel ih =>
    intro listed pq0 rest0 φ σ w a0 b ac hf h0
    obtain ⟨pq, rest, a, e1, e2, h⟩ := h0.advance
    rw [← e1] at hf
    clear h0 e1
    have notlisted : ∀ x ∈ pq ++ rest, listed.getD x.1 false = false := fun x hx => getD_true_false ((h.un x.1).2 ⟨x, hx, rfl⟩)
    refine ⟨fun hr => ?_, fun j hj => ?_⟩
    · exfalso
      cases hl : pq ++ rest with
      | nil => rw [hl] at hf; simp at hf
      | cons x l =>
        have hx : x ∈ pq ++ rest := by simp [hl]
        obtain ⟨hself, o, pend, _, ho, _⟩ := h.tr x hx
        have : x.1 ∈ Region.ready .any ops listed := mem_ready.2 ⟨(h.un x.1).2 ⟨x, hx, rfl⟩, o, ho, fun e he hbi => by
          cases hu : listed.getD e.on false with
          | true => rfl
          | false =>
            exfalso
            have hp : isPred ops e.on x.1 = true := by
              unfold isPred
              rw [ho]
              simp only [List.any_eq_true]
              exact ⟨e, Array.mem_toList_iff.2 he, by simp [hbi]⟩
            rcases Nat.lt_or_ge e.on listed.size with hlt | hge
            · have : listed.getD e.on true = false := by
                simp only [Array.getD_eq_getD_getElem?, Array.getElem?_eq_getElem hlt, Option.getD_some] at hu ⊢; exact hu
              obtain ⟨y, hy, hye⟩ := (h.un e.on).1 this
              rw [hl] at hy
              rcases List.mem_cons.1 hy with rfl | hy
              · have := (selfOk_spec hself).1
                rw [← hye] at hp
                rw [hp] at this
                cases this
              · have hpw := h.pw
                rw [hl] at hpw
                have := (pairOk_spec ((List.pairwise_cons.1 hpw).1 y hy).1).2.2.2.2.2.1
                rw [hye, hp] at this
                cases this
            · have := (selfOk_spec hself).2.2
              unfold predsIn at this
              rw [ho] at this
              simp only [List.all_eq_true] at this
              have := this e (Array.mem_toList_iff.2 he)
              rw [hbi] at this
              have h4 := h.size
              simp at this
              omega⟩
        rw [hr] at this
        cases this
    · obtain ⟨h1, o, ho, hpre⟩ := mem_ready.1 hj
      obtain ⟨x, hx, rfl⟩ := (h.un j).1 h1
      have hbef : ∀ i, bef i x.1 = true → listed.getD i false = true := fun i hi => by
        obtain ⟨e, he, hbi, hor⟩ := hb x.1 o ho i hi
        rcases hor with rfl | hor
        · exact hpre e he hbi
        · exact h.closed i e.on hor (hpre e he hbi)
      have nobef : ∀ y ∈ pq ++ rest, bef y.1 x.1 = false := fun y hy => by
        cases hby : bef y.1 x.1 with
        | false => rfl
        | true => have := hbef _ hby; rw [notlisted y hy] at this; cases this
      obtain ⟨hself, o', pend, fl, ho', htr⟩ := h.tr x hx
      rw [ho] at ho'
      cases ho'
      obtain ⟨hdst, hlt, _, act, hact, hio⟩ := trOper_dst htr
      have hd' : ∀ d, o.dst = some d → d < ac.tmps.size := fun d e => by rw [h.hn]; exact Nat.lt_of_lt_of_le (hlt d e) hle
      have hpqq : ∀ y ∈ pq, y.2.quiet = true := fun y hy => by obtain ⟨q', _, g1, _⟩ := h.quiet y hy; exact quiet_of_act g1
      -- what it looks at is there
      have look : ∀ t ∈ x.2.looks, fget a t = fget b t := fun t ht => by
        refine (h.mask t fun y hy hyd => ?_).symm
        have hsee : sees y.2 x.2 = true := by unfold sees; rw [hyd]; simpa using ht
        have hyq := hpqq y hy
        have hbf := nobef y (by simp [hy])
        by_cases hyx : y = x
        · subst hyx
          have := (selfOk_spec hself).2.1 hyq
          rw [hsee] at this; cases this
        · rcases pairwise_either h.pw (List.mem_append_left _ hy) hx hyx with hp | hp
          · have := (pairOk_spec hp.1).2.1 hsee
            rw [hbf] at this; cases this
          · have := ((pairOk_spec hp.1).2.2.1 hsee).1
            rw [hyq] at this; cases this
      rcases List.mem_append.1 hx with hxp | hxr
      · -- a quiet one
        obtain ⟨p1, p2, rfl⟩ := List.append_of_mem hxp
        obtain ⟨q, v, g1, g2, g3⟩ := h.quiet x hxp
        have hxq := quiet_of_act g1
        refine quiet_wp hc (σ := σ) h.s h.fr ho htr g1 (v := v) (by rw [← qv_congr g1 look]; exact g2) fun cv w' hcv xw sw => ?_
        have hsub : (p1 ++ p2 ++ rest).Sublist ((p1 ++ x :: p2) ++ rest) := List.Sublist.append (List.Sublist.append (.refl _) (List.sublist_cons_self _ _)) (.refl _)
        have hpw' : ((p1 ++ x :: p2) ++ rest).Pairwise (PR ops bef) := h.pw
        have hne : ∀ y ∈ p1 ++ p2 ++ rest, y.1 ≠ x.1 := fun y hy => by
          have hps := pw_split (l1 := p1) (l2 := p2 ++ rest) (x := x) (by simpa using h.pw)
          simp only [List.append_assoc, List.mem_append] at hy
          rcases hy with hy | hy
          · exact (pairOk_spec (hps.1 y hy).1).1
          · exact (pairOk_spec (hps.2 y (by simpa using hy)).1).1.symm
        refine ih _ (p1 ++ p2) rest (by simp at hf ⊢; omega) ?_ (φ := φ) (σ := σ) (w := w') (a := a) (b := fput b x.2.dst v)
        refine ⟨by simp [h.size], ?_, closed_set h.closed hbef, fun y hy => h.tr y (hsub.subset hy), h.pw.sublist hsub, fun y hy => h.quiet y (by simp at hy ⊢; rcases hy with hy | hy <;> simp [hy]), sw, h.x.trans xw, ?_, fun t ht => ?_, by rw [(put_size _ _).1, h.hn], by rw [(put_size _ _).2, h.hd], fun y hy => h.all y (hsub.subset hy), h.adj.sub hsub, h.go⟩
        · refine listed_set h.un hx (fun y hy => hsub.subset hy) hne fun y hy hyx => ?_
          simp at hy ⊢
          rcases hy with hy | rfl | hy | hy <;> simp_all
        · rw [hdst]; exact fr_put (fun t => (h.fr t).mono xw) hcv hd'
        · by_cases hdt : x.2.dst = some t
          · rw [hdt, fget_put_eq, g3 t hdt]
          · rw [fget_put hdt, h.mask t fun y hy => ?_]
            simp at hy
            rcases hy with hy | rfl | hy
            · exact ht y (by simp [hy])
            · exact hdt
            · exact ht y (by simp [hy])
      · -- one of those that stand behind
        obtain ⟨m, post, rfl⟩ := List.append_of_mem hxr
        have hloud : x.2.quiet = false ∧ ∀ y ∈ m, comm y.2 x.2 = true := by
          cases m with
          | nil => exact ⟨e2, by simp⟩
          | cons e m =>
            have hel : e.2.quiet = false := e2
            have hpe := (List.pairwise_append.1 h.pw).2.1
            have hex := (List.pairwise_cons.1 hpe).1 x (by simp)
            have hnb := nobef e (by simp)
            have hxl : x.2.quiet = false := by
              rcases (pairOk_spec hex.1).2.2.2.1 hel with h' | h'
              · rw [hnb] at h'; cases h'
              · exact h'
            refine ⟨hxl, ?_⟩
            obtain ⟨la, lb, he, k1, k2⟩ := h.adj (pq ++ e :: m) x post (by simp) hxl
            rcases List.append_eq_append_iff.1 he with ⟨c, rfl, hc'⟩ | ⟨c, rfl, rfl⟩
            · cases c with
              | nil =>
                simp only [List.nil_append] at hc'
                exact fun y hy => k1 y (hc' ▸ hy)
              | cons z c =>
                simp only [List.cons_append, List.cons.injEq] at hc'
                have := k2 e (by simp [hc'.1]) hel
                rw [hnb] at this; cases this
            · exact fun y hy => k1 y (by simp [hy])
        obtain ⟨hel, hcomm⟩ := hloud
        have hgo0 := h.go
        rw [List.map_append, List.map_cons] at hgo0
        have hreq := move_req (call := call) (x := x.2) (post.map (·.2)) (m.map (·.2)) a σ (fun y hy => by obtain ⟨z, hz, rfl⟩ := List.mem_map.1 hy; exact hcomm z hz) hgo0.isOk
        have hgo1 := hgo0.of_req hreq
        rw [← List.map_append] at hgo1
        have hgo : After w0 φ1 w1 nt ds ls (x.2.ev call a (evOps call ((m ++ post).map (·.2))) σ) Q := hgo1
        cases act with
        | q q => rw [quiet_of_act hio] at hel; cases hel
        | e ef0 =>
          have hio : x.2.act = .e (ef0.fl fl) pend := hio
          generalize ef0.fl fl = ef at hio
          have hsub : (pq ++ (m ++ post)).Sublist (pq ++ (m ++ x :: post)) := List.Sublist.append (.refl _) (List.Sublist.append (.refl _) (List.sublist_cons_self _ _))
          have hpw' : ((pq ++ m) ++ x :: post).Pairwise (PR ops bef) := by simpa using h.pw
          have hne : ∀ y ∈ pq ++ (m ++ post), y.1 ≠ x.1 := fun y hy => by
            have hps := pw_split hpw'
            rw [← List.append_assoc] at hy
            rcases List.mem_append.1 hy with hy | hy
            · exact (pairOk_spec (hps.1 y hy).1).1
            · exact (pairOk_spec (hps.2 y hy).1).1.symm
          have hls := listed_set h.un hx (fun y hy => hsub.subset hy) hne fun y hy hyx => by
            simp at hy ⊢
            rcases hy with hy | hy | rfl | hy <;> simp_all
          have hpq : ∀ y ∈ pq, PR ops bef y x := fun y hy => (List.pairwise_append.1 h.pw).2.2 y hy x (by simp)
          have nosee : ∀ y ∈ pq, sees x.2 y.2 = false := fun y hy => by
            cases hs : sees x.2 y.2 with
            | false => rfl
            | true =>
              have := ((pairOk_spec (hpq y hy).1).2.2.1 hs).2
              rw [nobef y (by simp [hy])] at this; cases this
          -- the rest, from a new state on
          have fin : ∀ (v : AVal) (σ' : ASt) (a' : Frame) (cv : Value) (φ' : Phi) (w' : World), FEq a' (fput a x.2.dst v) → (∀ y ∈ pq, ∀ q, y.2.act = .q q → y.2.qv q a σ' = y.2.qv q a σ) → VR φ' w' v cv → Ext φ w φ' w' → Sim w0 φ' σ' w' →
              After w0 φ1 w1 nt ds ls (evOps call ((m ++ post).map (·.2)) a' σ') Q → wpAny P .any ops Q fuel (listed.setIfInBounds x.1 true) (ac.put o.dst cv) w' := by
            intro v σ' a' cv φ' w' k3 hst q1 q2 q3 hgo'
            refine ih _ pq (m ++ post) (by simp at hf ⊢; omega) (a := a') (b := fput b x.2.dst v) (φ := φ') (σ := σ') ?_
            refine ⟨by simp [h.size], hls, closed_set h.closed hbef, fun y hy => h.tr y (hsub.subset hy), h.pw.sublist hsub, fun y hy => ?_, q3, h.x.trans q2, ?_, fun t ht => ?_, by rw [(put_size _ _).1, h.hn], by rw [(put_size _ _).2, h.hd], fun y hy => h.all y (hsub.subset hy), h.adj.sub hsub, hgo'⟩
            · obtain ⟨q', v', g1, g2, g3⟩ := h.quiet y hy
              refine ⟨q', v', g1, ?_, fun d hd => ?_⟩
              · rw [qv_congr g1 (b := a) fun t ht => ?_, hst y hy q' g1]
                · exact g2
                · rw [k3 t, fget_put fun e => not_sees (nosee y hy) e ht]
              · rw [k3 d, fget_put, g3 d hd]
                intro e
                have := ((pairOk_spec (hpq y hy).1).2.2.2.2.1 d hd e).1
                rw [hpqq y hy] at this; cases this
            · rw [hdst]; exact fr_put (fun t => (h.fr t).mono q2) q1 hd'
            · rw [k3 t]
              by_cases hdt : x.2.dst = some t
              · rw [hdt, fget_put_eq, fget_put_eq]
              · rw [fget_put hdt, fget_put hdt, h.mask t ht]
          have hev : ef.ev call b σ = ef.ev call a σ := EOp.ev_congr (fun y hy => (opds_congr look y (by simp [IOper.opds, hio, hy])).symm) call σ
          have hprb : x.2.pre b = x.2.pre a := (pre_congr look).symm
          rcases ev_eff hio hgo.isOk with ⟨k1, a', k2, k3⟩ | ⟨k1, k⟩
          · rw [k2] at hgo
            exact eff_wp hc h.s h.fr ho htr hio (hprb.trans k1) (fun _ => fin _ σ a' undef φ w k3 (fun _ _ _ _ => rfl) vr_skip (.refl φ w) h.s hgo) (by simp) (by simp) (by simp)
          · refine eff_wp hc h.s h.fr ho htr hio (hprb.trans k1) (by simp) (fun _ v σ' hv cv φ' w' q1 q2 q3 => ?_) (fun _ v σ' hv cv φ' w' q1 q2 q3 => ?_) (fun _ hv => ?_)
            · rw [hev] at hv
              rcases k with ⟨v', σ'', a', p1, p2, p3, p4⟩ | ⟨v', σ'', a', p1, p2, p3⟩
              · rw [p1] at hv
                cases hv
                rw [p3] at hgo
                refine fin v σ' a' cv φ' w' p4 (fun y hy q hq => ?_) q1 q2 q3 hgo
                cases hrd : q.reads with
                | false => unfold IOper.qv; rw [QOp.ev_pure hrd a σ' σ]
                | true =>
                  have hby := nobef y (by simp [hy])
                  obtain ⟨hg, d, hyd⟩ := (pairOk_spec (hpq y hy).1).2.2.2.2.2.2 q ef pend hq hio hby hrd
                  obtain ⟨q', v', g1, g2, g3⟩ := h.quiet y hy
                  rw [hq] at g1
                  cases g1
                  have hpre : y.2.pre a = some true := by
                    unfold IOper.pre at k1 ⊢
                    rcases hg with hg | hg
                    · rw [hg]
                    · rw [hg]; exact k1
                  have hqv : ∀ τ, y.2.qv q a τ = q.ev a τ := fun τ => by unfold IOper.qv; rw [hpre]
                  have this : q.ev a σ' = some (fget a d) := by
                    cases hk : ef.spares q with
                    | false =>
                      have hm := (hpq y hy).2 ef pend (d, q) hio hk hby (by unfold pendItem; rw [hq, hyd]; simp [hrd])
                      unfold stands at p2
                      simpa using List.all_eq_true.1 p2 _ hm
                    | true =>
                      rw [hqv] at g2
                      rw [g3 d hyd]
                      exact spares_ev hk p1 g2
                  rw [hqv, hqv] at *
                  rw [g2, this, g3 d hyd]
              · rw [p1] at hv; cases hv
            · rw [hev] at hv
              rcases k with ⟨v', σ'', a', p1, p2, p3, p4⟩ | ⟨v', σ'', a', p1, p2, p3⟩
              · rw [p1] at hv; cases hv
              · rw [p1] at hv
                cases hv
                rw [p2] at hgo
                refine hgo _ ac w' ⟨φ', h.x.trans q2, q3, fun t => ?_, h.hn, h.hd, _, rfl, q1⟩
                rw [fget_unq]
                split
                · exact .undef _
                · rename_i hnt
                  rw [p3 t, ← h.mask t fun y hy hyd => hnt (qdsts_mem hyd (hpqq y hy) (h.all y (by simp [hy])))]
                  exact (h.fr t).mono q2
            · rw [hev] at hv
              rcases k with ⟨v', σ'', a', p1, p2, p3, p4⟩ | ⟨v', σ'', a', p1, p2, p3⟩ <;> rw [p1] at hv <;> cases hv

end
end Go.Am

