/-
  The evaluator as the kernel runs it. Conditions: none.
-/
import Derived.Test.YthgemggkogfhaaaGreatDoorB1
namespace Go.Am
open Go Go.RowKit

def all2 (f : AVal → AVal → Bool) : List AVal → List AVal → Bool
  | [], [] => true
  | a :: l, b :: l' => f a b && all2 f l l'
  | _, _ => false

/-- Values that are the same, so far as n looks deep. -/
def sameV : Nat → AVal → AVal → Bool
  | 0, _, _ => false
  | n + 1, a, b => match a, b with
    | .bool x, .bool y => x == y
    | .int k x, .int k' y => decide (k = k') && decide (x = y)
    | .str x, .str y => x == y
    | .nilptr, .nilptr => true
    | .ptr x y, .ptr x' y' => Nat.beq x x' && Nat.beq y y'
    | .nilslice, .nilslice => true
    | .list t e l, .list t' e' l' => t == t' && Nat.beq e e' && all2 (sameV n) l l'
    | .mslice x y z u, .mslice x' y' z' u' => Nat.beq x x' && Nat.beq y y' && Nat.beq z z' && Nat.beq u u'
    | .nilmap, .nilmap => true
    | .map x, .map y => Nat.beq x y
    | .nilfunc, .nilfunc => true
    | .iface t v, .iface t' v' => Nat.beq t t' && sameV n v v'
    | .nilIface, .nilIface => true
    | .agg l, .agg l' => all2 (sameV n) l l'
    | .tuple l, .tuple l' => all2 (sameV n) l l'
    | _, _ => false

theorem all2_eq {f : AVal → AVal → Bool} (h : ∀ a b, f a b = true → a = b) : ∀ {l l' : List AVal}, all2 f l l' = true → l = l'
  | [], [], _ => rfl
  | [], _ :: _, k => by simp [all2] at k
  | _ :: _, [], k => by simp [all2] at k
  | a :: l, b :: l', k => by
    simp only [all2, Bool.and_eq_true] at k
    rw [h a b k.1, all2_eq h k.2]

theorem beq_nat {a b : Nat} (h : Nat.beq a b = true) : a = b := Nat.eq_of_beq_eq_true h

theorem sameV_eq : ∀ (n : Nat) {a b : AVal}, sameV n a b = true → a = b
  | 0, _, _, h => by simp [sameV] at h
  | n + 1, a, b, h => by
    have hl : ∀ {l l' : List AVal}, all2 (sameV n) l l' = true → l = l' := all2_eq fun a b => sameV_eq n
    cases a <;> cases b <;> simp only [sameV, Bool.and_eq_true, Bool.false_eq_true, decide_eq_true_eq, beq_iff_eq] at h
    all_goals first
      | rfl
      | (subst h; rfl)
      | (obtain ⟨h1, h2⟩ := h; subst h1 h2; rfl)
      | (obtain ⟨h1, h2⟩ := h; rw [beq_nat h1, beq_nat h2])
      | (obtain ⟨⟨h1, h2⟩, h3⟩ := h; rw [h1, beq_nat h2, hl h3])
      | (obtain ⟨⟨⟨h1, h2⟩, h3⟩, h4⟩ := h; rw [beq_nat h1, beq_nat h2, beq_nat h3, beq_nat h4])
      | (rw [beq_nat h])
      | (obtain ⟨h1, h2⟩ := h; rw [beq_nat h1, sameV_eq n h2])
      | (rw [hl h])

/-- What a change of memory is made of. -/
inductive Cmd where
  | push (o : AObj)
  | set (g : Nat) (o : AObj)

def Cmd.run : Cmd → ASt → ASt
  | .push o, σ => σ ++ [o]
  | .set g o, σ => σ.set g o

/-- What a frame holds, for the kernel. -/
noncomputable def fgetF (a : Frame) : Nat → AVal :=
  List.rec (motive := fun _ => Nat → AVal) (fun _ => .undef) (fun p _ ih t => Bool.rec (motive := fun _ => AVal) (ih t) p.2 (Nat.beq p.1 t)) a

theorem fgetF_eq : ∀ (a : Frame) (t : Nat), fgetF a t = fget a t
  | [], t => rfl
  | (i, v) :: a, t => by
    have : fgetF ((i, v) :: a) t = Bool.rec (motive := fun _ => AVal) (fgetF a t) v (Nat.beq i t) := rfl
    rw [this, fgetF_eq a t]
    simp only [fget]
    cases hb : Nat.beq i t with
    | true => rw [if_pos (Nat.eq_of_beq_eq_true hb)]
    | false => rw [if_neg (fun e => by subst e; rw [Nat.beq_refl] at hb; cases hb)]

noncomputable def IOpd.evF (a : Frame) : IOpd → AVal
  | .t n => fgetF a n
  | .v x => x
  | .f k => .func (.func k) [] []
  | .g n => .gptr n 0

theorem evF_opd (a : Frame) : (IOpd.evF a) = fun x => x.ev a := by
  funext x
  cases x <;> first | exact fgetF_eq a _ | rfl

abbrev Get := Nat → Option AObj
abbrev Val := IOpd → AVal

/-- A list turned one by one, for the kernel. -/
noncomputable def mapF {α β : Type} (f : α → β) (l : List α) : List β := List.rec (motive := fun _ => List β) [] (fun x _ ih => f x :: ih) l
theorem mapF_eq {α β : Type} (f : α → β) : ∀ l : List α, mapF f l = l.map f
  | [] => rfl
  | x :: l => by
    have : mapF f (x :: l) = f x :: mapF f l := rfl
    rw [this, mapF_eq f l]; rfl

def loadO (n : Option Nat) (off : Nat) (o : Option AObj) : Option AVal := match o with | some (.cells _ cs) => cut n cs off | _ => none
def loadV (n : Option Nat) (v : AVal) (get : Get) : Option AVal := match v with
  | .ptr g off => loadO n off (get g)
  | .iptr v off => cut n v.cells off
  | _ => none
def slArrO (es n g off : Nat) (o : Option AObj) : Option AVal := match o with
  | some (.cells _ cs) => if off % es = 0 ∧ 0 < es ∧ off + n * es ≤ cs.length then some (.mslice g es (off / es) n) else none
  | _ => none
def slArrV (es n : Nat) (v : AVal) (get : Get) : Option AVal := match v with | .ptr g off => slArrO es n g off (get g) | _ => none
def lookO (c : KC) (zero : AVal) (ok : Bool) (k : AVal) (o : Option AObj) : Option AVal := match o with
  | some (.map es) => match findKey c k es with
    | some (some v) => some (if ok then .tuple [v, .bool true] else v)
    | some none => some (if ok then .tuple [zero, .bool false] else zero)
    | none => none
  | _ => none
def lookV (c : KC) (zero : AVal) (ok : Bool) (m k : AVal) (get : Get) : Option AVal := if keyOk c k = false then none else match m with | .map g => lookO c zero ok k (get g) | _ => none
def lenO (o : Option AObj) : Option AVal := match o with | some (.map es) => some (.int .i64 es.length) | _ => none
def lenV (c : LC) (v : AVal) (get : Get) : Option AVal := match c, v with
  | .map, .map g => lenO (get g)
  | c, v => alen c v []
def toUO (g off : Nat) (o : Option AObj) : Option AVal := match o with
  | some (.cells _ cs) => if off < cs.length then some (.ptr g off) else none
  | _ => none
def toUV (v : AVal) (get : Get) : Option AVal := match v with | .ptr g off => toUO g off (get g) | _ => none
def fromUO (oks : List (Nat × Nat × Nat)) (g off : Nat) (o : Option AObj) : Option AVal := match o with
  | some (.cells t cs) => if oks.contains (t, cs.length, off) then some (.ptr g off) else none
  | _ => none
def fromUV (oks : List (Nat × Nat × Nat)) (v : AVal) (get : Get) : Option AVal := match v with | .ptr g off => fromUO oks g off (get g) | _ => none
def slArrQ (es n : Nat) (x lo hi : Option IOpd) (get : Get) (val : Val) : Option AVal := match x, lo, hi with | some x, none, none => slArrV es n (val x) get | _, _, _ => none

/-- Quiet operations by what is read of memory and by what operands are: each branch by itself, so that the kernel takes one alone. -/
noncomputable def QOp.evG (q : QOp) : Get → Val → Option AVal :=
  QOp.rec (motive := fun _ => Get → Val → Option AVal)
    (fun x _ val => some (val x))
    (fun c x y _ val => pck (val c) (val x) (val y))
    (fun zero parts _ val => (lay zero (mapF (fun p => (p.1, p.2.1, val p.2.2)) parts)).map .agg)
    (fun n p get val => loadV n (val p) get)
    (fun x _ val => anilc (val x))
    (fun op x y _ val => abin op (val x) (val y))
    (fun c neg x y _ val => aeqn c neg (val x) (val y))
    (fun op x _ val => aun op (val x))
    (fun k x _ val => aconv k (val x))
    (fun x _ val => asame (val x))
    (fun x _ val => abstr (val x))
    (fun t x _ val => some (.iface t (val x)))
    (fun fn first cap _ val => some (.func fn (mapF val first) (mapF val cap)))
    (fun x lo hi _ val => aslStr (val x) (lo.map val) (hi.map val))
    (fun es x lo hi _ val => aslList es (val x) (lo.map val) (hi.map val))
    (fun es n x lo hi get val => slArrQ es n (some x) lo hi get val)
    (fun off x _ val => aaddr off (val x))
    (fun n off x _ val => afield n off (val x))
    (fun es n x i _ val => aixArr es n (val x) (val i))
    (fun es x i _ val => aixSl es (val x) (val i))
    (fun es n x i _ val => aixVal es n (val x) (val i))
    (fun x i _ val => aixStr (val x) (val i))
    (fun c zero ok m k get val => lookV c zero ok (val m) (val k) get)
    (fun t zero x _ val => aassert t zero (val x))
    (fun t x _ val => aassert1 t (val x))
    (fun i x _ val => aextr i (val x))
    (fun c x get val => lenV c (val x) get)
    (fun x y _ val => amaxi (val x) (val y))
    (fun x _ val => asdata (val x))
    (fun x _ val => afmt (val x))
    (fun x get val => toUV (val x) get)
    (fun oks x get val => fromUV oks (val x) get) q

/-- What is known of memory. -/
def Known (get : Get) (σ : ASt) : Prop := ∀ g o, get g = some o → σ[g]? = some o

theorem known_cases {get : Get} {σ : ASt} (h : Known get σ) (g : Nat) : get g = none ∨ get g = σ[g]? := by
  cases hg : get g with
  | none => exact .inl rfl
  | some o => exact .inr (h g o hg).symm

theorem evG_ok {q : QOp} {a : Frame} {get : Get} {σ : ASt} (h : Known get σ) {v : AVal} (hv : q.evG get (fun x => x.ev a) = some v) : q.ev a σ = some v := by
  cases q
  case build z parts =>
    have : (lay z (mapF (fun p : Nat × Nat × IOpd => (p.1, p.2.1, p.2.2.ev a)) parts)).map AVal.agg = some v := hv
    rw [mapF_eq] at this
    exact this
  case func fn first cap =>
    have : some (AVal.func fn (mapF (fun x => x.ev a) first) (mapF (fun x => x.ev a) cap)) = some v := hv
    rw [mapF_eq, mapF_eq] at this
    exact this
  case load n p =>
    have hv : loadV n (p.ev a) get = some v := hv
    show aload n (p.ev a) σ = some v
    unfold loadV at hv
    unfold aload
    split at hv
    · rename_i g off hp
      simp only [hp]
      rcases known_cases h g with e | e
      · rw [e] at hv; cases hv
      · rw [e] at hv
        unfold loadO at hv
        exact hv
    · rename_i v' off hp; simp only [hp]; exact hv
    · cases hv
  case slArr es n x lo hi =>
    cases lo <;> cases hi <;> try (cases hv; done)
    have hv : slArrV es n (x.ev a) get = some v := hv
    show aslArr es n (x.ev a) σ = some v
    unfold slArrV at hv
    unfold aslArr
    split at hv
    · rename_i g off hp
      simp only [hp]
      rcases known_cases h g with e | e
      · rw [e] at hv; cases hv
      · rw [e] at hv; unfold slArrO at hv; exact hv
    · cases hv
  case lookup c z ok m k =>
    have hv : lookV c z ok (m.ev a) (k.ev a) get = some v := hv
    show alookup c z ok (m.ev a) (k.ev a) σ = some v
    unfold lookV at hv
    unfold alookup
    split at hv
    · cases hv
    · rename_i hk
      rw [if_neg hk]
      split at hv
      · rename_i g hp
        simp only [hp]
        rcases known_cases h g with e | e
        · rw [e] at hv; cases hv
        · rw [e] at hv; unfold lookO at hv; exact hv
      · cases hv
  case len c x =>
    have hv : lenV c (x.ev a) get = some v := hv
    show alen c (x.ev a) σ = some v
    generalize x.ev a = ax at hv ⊢
    have key : ∀ (c : LC) (ax : AVal), (∀ g, c = .map → ax ≠ .map g) → alen c ax [] = some v → alen c ax σ = some v := by
      intro c ax hne hv
      cases c <;> cases ax <;> first | exact hv | exact absurd rfl (hne _ rfl)
    cases c with
    | map =>
      cases ax with
      | map g =>
        have hv : lenO (get g) = some v := hv
        simp only [alen]
        rcases known_cases h g with e | e
        · rw [e] at hv; cases hv
        · rw [e] at hv; unfold lenO at hv; exact hv
      | _ => exact key _ _ (by simp) hv
    | _ => exact key _ _ (by simp) hv
  case toU x =>
    have hv : toUV (x.ev a) get = some v := hv
    show atoU (x.ev a) σ = some v
    unfold toUV at hv
    unfold atoU
    split at hv
    · rename_i g off hp
      simp only [hp]
      rcases known_cases h g with e | e
      · rw [e] at hv; cases hv
      · rw [e] at hv; unfold toUO at hv; exact hv
    · cases hv
  case fromU oks x =>
    have hv : fromUV oks (x.ev a) get = some v := hv
    show afromU oks (x.ev a) σ = some v
    unfold fromUV at hv
    unfold afromU
    split at hv
    · rename_i g off hp
      simp only [hp]
      rcases known_cases h g with e | e
      · rw [e] at hv; cases hv
      · rw [e] at hv; unfold fromUO at hv; exact hv
    · cases hv
  all_goals exact hv

def putP (get : Nat → Option AObj) (g off : Nat) (vs : List AVal) : Option Cmd :=
  match get g with
  | some (.cells t cs) => if off + vs.length ≤ cs.length then some (.set g (.cells t (cs.take off ++ vs ++ cs.drop (off + vs.length)))) else none
  | _ => none

def fillP (get : Nat → Option AObj) (len j : Nat) (o : AObj) (v : Nat → AVal) : Option (AVal × List Cmd) :=
  match get (len - j) with
  | some .dead => some (v (len - j), [.set (len - j) o])
  | _ => none

abbrev Plan := Option (AVal × List Cmd)

def boxP (t : TypeId) (v : AVal) (len : Nat) : Plan := if v.isVal = true then some (.ptr len 0, [.push (.cells t v.cells)]) else none
def bsliceP (el : TypeId) (es n : Nat) (cs : Option (List AVal)) (len : Nat) : Plan := match cs with | some cs => some (.list (some len) es (chunks es n cs), [.push (.tok n el)]) | none => none
def mksliceP (el : TypeId) (es : Nat) (zero : List AVal) (x : AVal) (len : Nat) : Plan := match x with
  | .int _ n => if 0 ≤ n ∧ n < 2 ^ 40 then some (.mslice len es 0 n.toNat, [.push (.cells el (zeros zero n.toNat))]) else none
  | _ => none
def one (v : AVal) (c : Option Cmd) : Plan := match c with | some c => some (v, [c]) | none => none
def storeP (n : Nat) (p x : AVal) (get : Get) : Plan := match p with
  | .ptr g off => if x.isVal = true ∧ x.cells.length = n then one .undef (putP get g off x.cells) else none
  | _ => none
def mapO (c : KC) (g : Nat) (k x : AVal) (o : Option AObj) : Plan := match o with
  | some (.map es) => match putKey c k x es with | some es' => some (.undef, [.set g (.map es')]) | none => none
  | _ => none
def mapP (c : KC) (m k x : AVal) (get : Get) : Plan := if keyOk c k = false then none else match m with | .map g => mapO c g k x (get g) | _ => none
def appO (el : TypeId) (es bytes k es' : Nat) (l xs : List AVal) (o : Option AObj) : Plan := match o with
  | some (.tok n el') => if n = l.length ∧ es = es' ∧ el = el' ∧ (l.length + xs.length) * bytes < 2 ^ 46 then some (.list (some k) es (l ++ xs), [.set k (.tok (l.length + xs.length) el)]) else none
  | _ => none
def appNo (es : Nat) (s : AVal) : Plan := match s with | .nilslice => some (s, []) | .list _ es' _ => if es = es' then some (s, []) else none | _ => none
def appYes (el : TypeId) (es bytes : Nat) (s : AVal) (xs : List AVal) (get : Get) (len : Nat) : Plan := match s with
  | .nilslice => if xs.length * bytes < 2 ^ 46 then some (.list (some len) es xs, [.push (.tok xs.length el)]) else none
  | .list (some k) es' l => appO el es bytes k es' l xs (get k)
  | _ => none
def appP (el : TypeId) (es bytes : Nat) (s : AVal) (xs : Option (List AVal)) (get : Get) (len : Nat) : Plan := match xs with
  | none => none
  | some [] => appNo es s
  | some (x :: xs) => appYes el es bytes s (x :: xs) get len
def copyP (es : Nat) (s : AVal) (xs : Option (List AVal)) (get : Get) : Plan := match xs, s with
  | some xs, .mslice g es' off len => if es = es' then one (.int .i64 (min xs.length len : Nat)) (putP get g (off * es) ((xs.take (min xs.length len)).flatMap AVal.cells)) else none
  | _, _ => none
def ustrO (el : TypeId) (l : List AVal) (m : Int) (o : Option AObj) (bs : Option (List UInt8)) : Plan := match o, bs with
  | some (.tok n el'), some bs => if m = l.length ∧ 0 < l.length ∧ l.length < 2 ^ 62 ∧ n = l.length ∧ el = el' then some (.str bs, []) else none
  | _, _ => none
def ustrP (el : TypeId) (p n : AVal) (get : Get) : Plan := match p, n with
  | .nilptr, .int _ m => if m = 0 then some (.str [], []) else none
  | .dptr (.list (some k) 1 l), .int _ m => ustrO el l m (get k) (bytesOf l)
  | _, _ => none
def fillSP (j : Nat) (el : TypeId) (es : Nat) (zero : List AVal) (x : AVal) (get : Get) (len : Nat) : Plan := match x with
  | .int _ n => if 0 ≤ n ∧ n < 2 ^ 40 then fillP get len j (.cells el (zeros zero n.toNat)) (fun g => .mslice g es 0 n.toNat) else none
  | _ => none

/-- What an operation that is no call does to memory. -/
noncomputable def EOp.plan (e : EOp) : Get → Nat → Val → Plan :=
  EOp.rec (motive := fun _ => Get → Nat → Val → Plan)
    (fun t z _ len _ => some (.ptr len 0, [.push (.cells t z)]))
    (fun t x _ len val => boxP t (val x) len)
    (fun el es n zero parts _ len val => bsliceP el es n (lay (zeros zero n) (mapF (fun p => (p.1, p.2.1, val p.2.2)) parts)) len)
    (fun _ len _ => some (.map len, [.push (.map [])]))
    (fun el es zero x _ len val => mksliceP el es zero (val x) len)
    (fun n p x get _ val => storeP n (val p) (val x) get)
    (fun c m k x get _ val => mapP c (val m) (val k) (val x) get)
    (fun el es bytes s x get len val => appP el es bytes (val s) (elems es (val x)) get len)
    (fun es s x get _ val => copyP es (val s) (elems es (val x)) get)
    (fun el p n get _ val => ustrP el (val p) (val n) get)
    (fun _ _ _ _ _ => none)
    (fun _ _ _ _ _ => none)
    (fun _ _ _ _ => none)
    (fun x _ _ val => some (val x, []))
    (fun k _ _ _ => some (.undef, List.replicate k (.push .dead)))
    (fun j t z get len _ => fillP get len j (.cells t z) (fun g => .ptr g 0))
    (fun j el es zero x get len val => fillSP j el es zero (val x) get len)
    (fun j get len _ => fillP get len j (.map []) (fun g => .map g)) e

def runCmds : List Cmd → ASt → ASt
  | [], σ => σ
  | c :: l, σ => runCmds l (c.run σ)

theorem run_pushes : ∀ (k : Nat) (σ : ASt), runCmds (List.replicate k (.push .dead)) σ = σ ++ List.replicate k .dead
  | 0, σ => by simp [runCmds]
  | k + 1, σ => by rw [List.replicate_succ, runCmds, run_pushes k, Cmd.run]; simp [List.replicate_succ]

/-- What it plans it does. -/
theorem plan_ok {e : EOp} {call : FuncId → List AVal → M AVal} {a : Frame} {get : Get} {σ : ASt} (hk : Known get σ) {v : AVal} {cs : List Cmd} (h : e.plan get σ.length (fun x => x.ev a) = some (v, cs)) : e.ev call a σ = .ok v (runCmds cs σ) := by
  have hput : ∀ g off vs c, putP get g off vs = some c → put σ g off vs = .ok .undef (c.run σ) := by
    intro g off vs c h
    unfold putP at h
    unfold put
    rcases known_cases hk g with e | e
    · rw [e] at h; cases h
    · rw [e] at h
      split at h
      · rename_i hg
        split at h
        · rename_i hl; cases h; simp only [hg, if_pos hl, Cmd.run]
        · cases h
      · cases h
  have hfill : ∀ j o f v cs, fillP get σ.length j o f = some (v, cs) → afill j o f σ = .ok v (runCmds cs σ) := by
    intro j o f v cs h
    unfold fillP at h
    unfold afill
    rcases known_cases hk (σ.length - j) with e | e
    · rw [e] at h; cases h
    · rw [e] at h
      split at h
      · rename_i hg; cases h; simp only [hg]; rfl
      · cases h
  have hone : ∀ (u : AVal) (c : Option Cmd), one u c = some (v, cs) → ∃ c', c = some c' ∧ v = u ∧ cs = [c'] := by
    intro u c h
    cases c with
    | none => cases h
    | some c' => cases h; exact ⟨c', rfl, rfl, rfl⟩
  cases e
  case alloc t z => cases h; rfl
  case box t x =>
    have h : boxP t (x.ev a) σ.length = some (v, cs) := h
    simp only [EOp.ev]
    unfold boxP at h
    split at h
    · rename_i hv; cases h; simp only [abox, if_pos hv]; rfl
    · cases h
  case bslice el es n z parts =>
    have h : bsliceP el es n (lay (zeros z n) (mapF (fun p : Nat × Nat × IOpd => (p.1, p.2.1, p.2.2.ev a)) parts)) σ.length = some (v, cs) := h
    rw [mapF_eq] at h
    simp only [EOp.ev]
    unfold bsliceP at h
    split at h
    · rename_i cs' hl
      cases h
      show abslice el es n (lay (zeros z n) (parts.map fun p => (p.1, p.2.1, p.2.2.ev a))) σ = _
      rw [hl]
      rfl
    · cases h
  case mkmap => cases h; rfl
  case mkslice el es z x =>
    have h : mksliceP el es z (x.ev a) σ.length = some (v, cs) := h
    simp only [EOp.ev]
    unfold mksliceP at h
    unfold amkslice
    split at h
    · rename_i hx
      split at h
      · rename_i hn; cases h; simp only [hx, if_pos hn]; rfl
      · cases h
    · cases h
  case store n p x =>
    have h : storeP n (p.ev a) (x.ev a) get = some (v, cs) := h
    simp only [EOp.ev]
    unfold storeP at h
    unfold astore
    split at h
    · rename_i g off hp
      split at h
      · rename_i hc
        obtain ⟨c, h1, rfl, rfl⟩ := hone _ _ h
        simp only [hp, if_pos hc]
        exact hput _ _ _ _ h1
      · cases h
    · cases h
  case mapupd c m k x =>
    have h : mapP c (m.ev a) (k.ev a) (x.ev a) get = some (v, cs) := h
    simp only [EOp.ev]
    unfold mapP at h
    unfold amapupd
    split at h
    · cases h
    · rename_i hko
      rw [if_neg hko]
      split at h
      · rename_i g hm
        simp only [hm]
        rcases known_cases hk g with e | e
        · rw [e] at h; cases h
        · rw [e] at h
          unfold mapO at h
          split at h
          · rename_i es hg
            split at h
            · rename_i es' hp; cases h; simp only [hg, hp]; rfl
            · cases h
          · cases h
      · cases h
  case append el es bytes s x =>
    have h : appP el es bytes (s.ev a) (elems es (x.ev a)) get σ.length = some (v, cs) := h
    simp only [EOp.ev]
    unfold appP at h
    unfold aappend
    split at h
    · cases h
    · rename_i hx
      simp only [hx, List.isEmpty_nil, if_true]
      unfold appNo at h
      split at h
      · rename_i hs; cases h; simp only [hs]; rfl
      · rename_i hs
        split at h
        · rename_i hq; cases h; simp only [hs, if_pos hq]; rfl
        · cases h
      · cases h
    · rename_i y ys hx
      simp only [hx, List.isEmpty_cons, Bool.false_eq_true, if_false]
      unfold appYes at h
      split at h
      · rename_i hs
        split at h
        · rename_i hq; cases h; simp only [hs, if_pos hq]; rfl
        · cases h
      · rename_i k es' l hs
        simp only [hs]
        rcases known_cases hk k with e | e
        · rw [e] at h; cases h
        · rw [e] at h
          unfold appO at h
          split at h
          · rename_i n el' hg
            split at h
            · rename_i hq; cases h; simp only [hg, if_pos hq]; rfl
            · cases h
          · cases h
      · cases h
  case copy es s x =>
    have h : copyP es (s.ev a) (elems es (x.ev a)) get = some (v, cs) := h
    simp only [EOp.ev]
    unfold copyP at h
    unfold acopy
    split at h
    · rename_i xs g es' off len hx hs
      split at h
      · rename_i hq
        obtain ⟨c, h1, rfl, rfl⟩ := hone _ _ h
        simp only [hx, hs, if_pos hq, hput _ _ _ _ h1, R.bind]
        rfl
      · cases h
    · cases h
  case ustr el p n =>
    have h : ustrP el (p.ev a) (n.ev a) get = some (v, cs) := h
    simp only [EOp.ev]
    unfold ustrP at h
    unfold austr
    split at h
    · rename_i hp hn
      split at h
      · rename_i hq; cases h; simp only [hp, hn, if_pos hq]; rfl
      · cases h
    · rename_i k l _ m hp hn
      simp only [hp, hn]
      rcases known_cases hk k with e | e
      · rw [e] at h; cases h
      · rw [e] at h
        unfold ustrO at h
        split at h
        · rename_i hg hb
          split at h
          · rename_i hq; cases h; simp only [hg, hb, if_pos hq]; rfl
          · cases h
        · cases h
    · cases h
  case set x => cases h; rfl
  case res k => cases h; rw [run_pushes]; rfl
  case fillA j t z => exact hfill j (.cells t z) (fun g => .ptr g 0) _ _ h
  case fillM j => exact hfill j (.map []) (fun g => .map g) _ _ h
  case fillS j el es z x =>
    have h : fillSP j el es z (x.ev a) get σ.length = some (v, cs) := h
    simp only [EOp.ev]
    unfold fillSP at h
    unfold afillS
    split at h
    · rename_i hx
      split at h
      · rename_i hn; simp only [hx, if_pos hn]; exact hfill _ _ _ _ _ h
      · cases h
    · cases h
  all_goals cases h

/-- Memory as a tree. -/
inductive KT where
  | leaf
  | node (v : Option AObj) (l r : KT)

noncomputable def KT.get (t : KT) : Nat → Option AObj :=
  KT.rec (motive := fun _ => Nat → Option AObj) (fun _ => none) (fun v _ _ ihl ihr g => Bool.rec (motive := fun _ => Option AObj) (Bool.rec (motive := fun _ => Option AObj) (ihr (Nat.sub (Nat.div g 2) 1)) (ihl (Nat.div g 2)) (Nat.beq (Nat.mod g 2) 1)) v (Nat.beq g 0)) t

noncomputable def KT.set (x : AObj) (k : Nat) : KT → Nat → KT :=
  Nat.rec (motive := fun _ => KT → Nat → KT) (fun t _ => t) (fun _ ih t g => KT.rec (motive := fun _ => KT)
    (Bool.rec (motive := fun _ => KT) (Bool.rec (motive := fun _ => KT) (.node none .leaf (ih .leaf (Nat.sub (Nat.div g 2) 1))) (.node none (ih .leaf (Nat.div g 2)) .leaf) (Nat.beq (Nat.mod g 2) 1)) (.node (some x) .leaf .leaf) (Nat.beq g 0))
    (fun v l r _ _ => Bool.rec (motive := fun _ => KT) (Bool.rec (motive := fun _ => KT) (.node v l (ih r (Nat.sub (Nat.div g 2) 1))) (.node v (ih l (Nat.div g 2)) r) (Nat.beq (Nat.mod g 2) 1)) (.node (some x) l r) (Nat.beq g 0)) t) k

theorem bif_pos {α : Type} {n m : Nat} (h : n = m) (a b : α) : (Bool.rec (motive := fun _ => α) b a (Nat.beq n m)) = a := by subst h; rw [Nat.beq_refl]
theorem bif_neg {α : Type} {n m : Nat} (h : ¬ n = m) (a b : α) : (Bool.rec (motive := fun _ => α) b a (Nat.beq n m)) = b := by
  cases hb : Nat.beq n m with
  | true => exact absurd (beq_nat hb) h
  | false => rfl

theorem get_node (v : Option AObj) (l r : KT) (g : Nat) : (KT.node v l r).get g = if g = 0 then v else if g % 2 = 1 then l.get (g / 2) else r.get (g / 2 - 1) := by
  have e : (KT.node v l r).get g = Bool.rec (motive := fun _ => Option AObj) (Bool.rec (motive := fun _ => Option AObj) (r.get (g / 2 - 1)) (l.get (g / 2)) (Nat.beq (g % 2) 1)) v (Nat.beq g 0) := rfl
  rw [e]
  by_cases h0 : g = 0
  · rw [bif_pos h0, if_pos h0]
  · rw [bif_neg h0, if_neg h0]
    by_cases h1 : g % 2 = 1
    · rw [bif_pos h1, if_pos h1]
    · rw [bif_neg h1, if_neg h1]

theorem get_set (x : AObj) : ∀ (k : Nat) (t : KT) (g h : Nat), g + 1 < 2 ^ k → (KT.set x k t g).get h = if h = g then some x else t.get h
  | 0, t, g, h, hb => by simp at hb
  | k + 1, t, g, h, hb => by
    have hp : 2 ^ (k + 1) = 2 * 2 ^ k := by rw [Nat.pow_succ]; omega
    have step : ∀ (v : Option AObj) (l r : KT), t = .node v l r ∨ (t = .leaf ∧ v = none ∧ l = .leaf ∧ r = .leaf) → (KT.set x (k + 1) t g).get h = if h = g then some x else (KT.node v l r).get h := by
      intro v l r ht
      have hs : KT.set x (k + 1) t g = Bool.rec (motive := fun _ => KT) (Bool.rec (motive := fun _ => KT) (.node v l (KT.set x k r (g / 2 - 1))) (.node v (KT.set x k l (g / 2)) r) (Nat.beq (g % 2) 1)) (.node (some x) l r) (Nat.beq g 0) := by
        rcases ht with rfl | ⟨rfl, rfl, rfl, rfl⟩ <;> rfl
      rw [hs]
      by_cases h0 : g = 0
      · rw [bif_pos h0, get_node, get_node]
        subst h0
        by_cases hh : h = 0
        · simp [hh]
        · simp [hh]
      · rw [bif_neg h0]
        by_cases h1 : g % 2 = 1
        · rw [bif_pos h1, get_node, get_node]
          by_cases hh : h = 0
          · subst hh; rw [if_pos rfl, if_pos rfl, if_neg (by omega)]
          · rw [if_neg hh, if_neg hh]
            by_cases h2 : h % 2 = 1
            · rw [if_pos h2, if_pos h2, get_set x k l (g / 2) (h / 2) (by omega)]
              by_cases e : h = g
              · subst e; simp
              · rw [if_neg e, if_neg (by omega)]
            · rw [if_neg h2, if_neg h2, if_neg (by intro e; subst e; exact h2 h1)]
        · rw [bif_neg h1, get_node, get_node]
          by_cases hh : h = 0
          · subst hh; rw [if_pos rfl, if_pos rfl, if_neg (by omega)]
          · rw [if_neg hh, if_neg hh]
            by_cases h2 : h % 2 = 1
            · rw [if_pos h2, if_pos h2, if_neg (by intro e; subst e; exact h1 h2)]
            · rw [if_neg h2, if_neg h2, get_set x k r (g / 2 - 1) (h / 2 - 1) (by omega)]
              by_cases e : h = g
              · subst e; simp
              · rw [if_neg e, if_neg (by omega)]
    cases t with
    | node v l r => exact step v l r (.inl rfl)
    | leaf =>
      rw [step none .leaf .leaf (.inr ⟨rfl, rfl, rfl, rfl⟩), get_node]
      have : ∀ i, KT.leaf.get i = none := fun _ => rfl
      simp [this]

structure KS where
  n : Nat
  t : KT

/-- The tree holds what the list holds. -/
structure Rep (τ : KS) (σ : ASt) : Prop where
  len : τ.n = σ.length
  small : τ.n < 524288
  get : Known τ.t.get σ

noncomputable def pushK (o : AObj) (τ : KS) : Option KS := Bool.rec (motive := fun _ => Option KS) none (some ⟨Nat.succ τ.n, KT.set o 20 τ.t τ.n⟩) (Nat.blt (Nat.succ τ.n) 524288)
noncomputable def setK (g : Nat) (o : AObj) (τ : KS) : Option KS := Bool.rec (motive := fun _ => Option KS) none (some ⟨τ.n, KT.set o 20 τ.t g⟩) (Nat.blt g τ.n)

noncomputable def Cmd.runK (c : Cmd) : KS → Option KS := Cmd.rec (motive := fun _ => KS → Option KS) (fun o τ => pushK o τ) (fun g o τ => setK g o τ) c

def bindK (o : Option KS) (f : KS → Option KS) : Option KS := match o with | some τ => f τ | none => none

noncomputable def runCmdsK (l : List Cmd) : KS → Option KS :=
  List.rec (motive := fun _ => KS → Option KS) (fun τ => some τ) (fun c _ ih τ => bindK (c.runK τ) ih) l

theorem blt_lt {a b : Nat} (h : Nat.blt a b = true) : a < b := by unfold Nat.blt at h; exact Nat.le_of_ble_eq_true h

theorem runK_ok {c : Cmd} {τ τ' : KS} {σ : ASt} (r : Rep τ σ) (h : c.runK τ = some τ') : Rep τ' (c.run σ) := by
  cases c with
  | push o =>
    have h : pushK o τ = some τ' := h
    unfold pushK at h
    cases hb : Nat.blt (Nat.succ τ.n) 524288 with
    | false => rw [hb] at h; cases h
    | true =>
      rw [hb] at h
      cases h
      have hlt : τ.n + 1 < 524288 := blt_lt hb
      refine ⟨by simp [Cmd.run, r.len], hlt, fun g o' hg => ?_⟩
      rw [get_set o 20 τ.t τ.n g (by omega)] at hg
      rw [Cmd.run]
      by_cases hgn : g = τ.n
      · subst hgn; rw [if_pos rfl] at hg; cases hg; rw [r.len]; simp
      · rw [if_neg hgn] at hg
        have := r.get g o' hg
        rw [List.getElem?_append_left (lt_of_get this)]
        exact this
  | set g o =>
    have h : setK g o τ = some τ' := h
    unfold setK at h
    cases hb : Nat.blt g τ.n with
    | false => rw [hb] at h; cases h
    | true =>
      rw [hb] at h
      cases h
      have hlt := blt_lt hb
      have hs := r.small
      refine ⟨by simp [Cmd.run, r.len], r.small, fun g' o' hg => ?_⟩
      rw [get_set o 20 τ.t g g' (by omega)] at hg
      rw [Cmd.run]
      have hl : g < σ.length := by rw [← r.len]; exact hlt
      by_cases hgn : g' = g
      · subst hgn; rw [if_pos rfl] at hg; cases hg; simp [hl]
      · rw [if_neg hgn] at hg
        rw [List.getElem?_set_ne (Ne.symm hgn)]
        exact r.get g' o' hg

theorem runCmdsK_ok : ∀ {l : List Cmd} {τ τ' : KS} {σ : ASt}, Rep τ σ → runCmdsK l τ = some τ' → Rep τ' (runCmds l σ)
  | [], τ, τ', σ, r, h => by
    have h : some τ = some τ' := h
    cases h; exact r
  | c :: l, τ, τ', σ, r, h => by
    have h : bindK (c.runK τ) (runCmdsK l) = some τ' := h
    unfold bindK at h
    split at h
    · rename_i h1
      exact runCmdsK_ok (l := l) (runK_ok r h1) h
    · cases h

end Go.Am

