/-
  Code, functions, deferred functions. Conditions: none.
-/
import Derived.Test.YthgemggkogfhaaaGreatDoorA9
import Derived.Defers
import Derived.Recover
namespace Go.Am
open Go Go.RowKit

def befVal (acc : List Nat) : List Edge → Nat
  | [] => 0
  | e :: l => if Region.binds .any e then (2 ^ e.on ||| acc.getD e.on 0) ||| befVal acc l else befVal acc l

def befGo : List Nat → List Oper → List Nat
  | acc, [] => acc
  | acc, o :: l => befGo (acc ++ [befVal acc o.after.toList]) l

/-- Whether one operation is bound to stand ahead of another. -/
def befOf (bs : List Nat) (i j : Nat) : Bool := (bs.getD j 0).testBit i

theorem befVal_ok {acc : List Nat} {i : Nat} : ∀ {l : List Edge}, (befVal acc l).testBit i = true → ∃ e ∈ l, Region.binds .any e = true ∧ (i = e.on ∨ (acc.getD e.on 0).testBit i = true)
  | [], h => by simp [befVal] at h
  | e :: l, h => by
    unfold befVal at h
    split at h
    · rename_i hb
      simp only [Nat.testBit_or, Bool.or_eq_true, Nat.testBit_two_pow, decide_eq_true_eq] at h
      rcases h with (h | h) | h
      · exact ⟨e, by simp, hb, .inl h.symm⟩
      · exact ⟨e, by simp, hb, .inr h⟩
      · obtain ⟨e', h1, h2⟩ := befVal_ok h
        exact ⟨e', by simp [h1], h2⟩
    · obtain ⟨e', h1, h2⟩ := befVal_ok h
      exact ⟨e', by simp [h1], h2⟩

theorem befGo_ok : ∀ (l : List Oper) (acc : List Nat), (∀ k, k < acc.length → (befGo acc l).getD k 0 = acc.getD k 0) ∧
    ∀ m o, l[m]? = some o → ∃ acc', (befGo acc l).getD (acc.length + m) 0 = befVal acc' o.after.toList ∧ ∀ k i, (acc'.getD k 0).testBit i = true → ((befGo acc l).getD k 0).testBit i = true
  | [], acc => ⟨fun _ _ => rfl, fun m o h => by simp at h⟩
  | o :: l, acc => by
    obtain ⟨h1, h2⟩ := befGo_ok l (acc ++ [befVal acc o.after.toList])
    have keep : ∀ k, k < acc.length → (befGo acc (o :: l)).getD k 0 = acc.getD k 0 := fun k hk => by
      rw [befGo, h1 k (by simp; omega)]
      simp [List.getElem?_append_left hk]
    refine ⟨keep, fun m o' hm => ?_⟩
    cases m with
    | zero =>
      cases hm
      refine ⟨acc, ?_, fun k i hki => ?_⟩
      · rw [befGo, h1 _ (by simp)]
        simp
      · rcases Nat.lt_or_ge k acc.length with hk | hk
        · rw [keep k hk]; exact hki
        · simp [List.getElem?_eq_none hk] at hki
    | succ m =>
      obtain ⟨acc', g1, g2⟩ := h2 m o' (by simpa using hm)
      refine ⟨acc', ?_, g2⟩
      rw [befGo, ← g1]
      congr 1
      simp
      omega

theorem bef_ok {ops : Array Oper} {j : Nat} {o : Oper} (ho : ops[j]? = some o) {i : Nat} (h : befOf (befGo [] ops.toList) i j = true) :
    ∃ e ∈ o.after, Region.binds .any e = true ∧ (i = e.on ∨ befOf (befGo [] ops.toList) i e.on = true) := by
  obtain ⟨acc', h1, h2⟩ := (befGo_ok ops.toList []).2 j o (by simpa using ho)
  unfold befOf at h
  simp only [List.length_nil, Nat.zero_add] at h1
  rw [h1] at h
  obtain ⟨e, k1, k2, k3⟩ := befVal_ok h
  exact ⟨e, Array.mem_toList_iff.1 k1, k2, k3.imp id (h2 _ _)⟩

/-- An order for a region: ahead of each operation that turns the state all quiet ones that are not bound to stand behind it. -/
def canon (bef : Nat → Nat → Bool) : Nat → List (Nat × Bool) → List Nat
  | 0, l => l.map (·.1)
  | n + 1, l => match l.find? (fun x => !x.2) with
    | none => l.map (·.1)
    | some e => (l.filter fun x => x.2 && !bef e.1 x.1).map (·.1) ++ e.1 :: canon bef n (l.filter fun x => x.1 != e.1 && (!x.2 || bef e.1 x.1))

def quietAt (P : Program) (ops : Array Oper) (i : Nat) : Bool :=
  match (ops[i]?).bind (trOp P) with
  | some (.q _) => true
  | _ => false

def makesAt (P : Program) (ops : Array Oper) (i : Nat) : Bool :=
  match (ops[i]?).bind (trOp P) with
  | some (.e (.alloc ..)) | some (.e (.mkslice ..)) | some (.e .mkmap) => true
  | _ => false

def loudAt (P : Program) (ops : Array Oper) (i : Nat) : Bool :=
  match (ops[i]?).bind (trOp P) with
  | some (.e _) => true
  | _ => false

/-- The operations that make something and stand in no order with another that turns the state. -/
def floatsOf (P : Program) (ops : Array Oper) (bef : Nat → Nat → Bool) : List Nat :=
  (List.range ops.size).filter fun i => makesAt P ops i && (List.range ops.size).any fun j => j != i && loudAt P ops j && !bef i j && !bef j i

def placeOf : List Nat → Nat → Option Nat
  | [], _ => none
  | x :: l, i => if x == i then some (l.length + 1) else placeOf l i

/-- With places for what stands in no order. -/
def withRes (k : Nat) (l : List IOper) : List IOper :=
  match k with
  | 0 => l
  | k => ⟨none, .e (.res k) [], none⟩ :: l

def trReg (P : Program) (nt : Nat) (ops : Array Oper) : Bool → Option (List IOper)
  | false => (List.range ops.size).mapM fun i => (ops[i]?).bind fun o => trOper P nt ops none o []
  | true =>
    let bs := befGo [] ops.toList
    let l := canon (befOf bs) ops.size ((List.range ops.size).map fun i => (i, quietAt P ops i))
    let fs := floatsOf P ops (befOf bs)
    if (List.range ops.size).all (fun j => l.contains j) && P.follows .mixedOrders then (trDraw P nt ops (befOf bs) (placeOf fs) [] l).map fun r => withRes fs.length (r.map (·.2)) else none

def trDefer (o : Oper) : Option (IOpd × List IOpd) :=
  match o.op, o.guard, o.dst with
  | .defer c, none, none => match c.callee with
    | .value x => match trOpd x, trOpds c.args with
      | some x, some as => some (x, as)
      | _, _ => none
    | _ => none
  | _, _, _ => none

/-- A region that ends with a deferred call. -/
def trRegD (P : Program) (nt : Nat) (ops : Array Oper) : Option (List IOper × IOpd × List IOpd) :=
  match ops.size with
  | 0 => none
  | n + 1 => match (List.range n).mapM fun i => (ops[i]?).bind fun o => trOper P nt ops none o [] with
    | some l => match (ops[n]?).bind trDefer with
      | some (x, as) => some (l, x, as)
      | none => none
    | none => none

/-- Code. The second argument tells which values live on. -/
def trC (P : Program) (nt : Nat) : Code → ICode → Option ICode
  | .skip, _ => some .skip
  | .label _, _ => some .skip
  | .ret, _ => some .ret
  | .exit id, _ => some (.exit id)
  | .region _ ops draw, .ops _ live => (trReg P nt ops draw).map fun l => .ops l live
  | .region _ ops false, .seq (.ops _ live) _ => (trRegD P nt ops).map fun (l, x, as) => .seq (.ops l live) (.defer x as)
  | .seq x y, .seq hx hy => match trC P nt x hx, trC P nt y hy with
    | some x, some y => some (.seq x y)
    | _, _ => none
  | .cond c x y, .cond _ hx hy => match trOpd c, trC P nt x hx, trC P nt y hy with
    | some c, some x, some y => some (.cond c x y)
    | _, _, _ => none
  | .block id x, .block _ hx => (trC P nt x hx).map (.block id ·)
  | .loop x, .loop live hx => (trC P nt x hx).map (.loop live ·)
  | .scope x, h => trC P nt x h
  | .refuse _, _ => some (.cond (.v .undef) .skip .skip)
  | _, _ => none

inductive DR (φ : Phi) (w : World) : AVal × List AVal → Deferred → Prop where
  | mk (fn : Fn) (first cap as : List AVal) (first' cap' as' : List Value) (h1 : VRs φ w first first') (h2 : VRs φ w cap cap') (h3 : VRs φ w as as') :
      DR φ w (.func fn first cap, as) { target := .fn fn cap'.toArray, args := (first' ++ as').toArray }

inductive DRs (φ : Phi) (w : World) : List (AVal × List AVal) → List Deferred → Prop where
  | nil : DRs φ w [] []
  | cons {d ds e es} (h : DR φ w d e) (hs : DRs φ w ds es) : DRs φ w (d :: ds) (e :: es)

theorem DR.mono {φ φ' : Phi} {w w' : World} (x : Ext φ w φ' w') {d : AVal × List AVal} {e : Deferred} (h : DR φ w d e) : DR φ' w' d e := by
  cases h with
  | mk fn first cap as first' cap' as' h1 h2 h3 => exact .mk fn first cap as first' cap' as' (h1.mono x) (h2.mono x) (h3.mono x)

theorem DRs.mono {φ φ' : Phi} {w w' : World} (x : Ext φ w φ' w') {ds : List (AVal × List AVal)} {es : List Deferred} (h : DRs φ w ds es) : DRs φ' w' ds es := by
  induction h with
  | nil => exact .nil
  | cons h _ ih => exact .cons (h.mono x) ih

theorem fget_restrict (l : List Nat) (a : Frame) (t : Nat) : fget (restrict l a) t = if t ∈ l then fget a t else .undef := by
  unfold restrict
  induction l with
  | nil => rfl
  | cons i l ih =>
    simp only [List.map_cons, fget]
    rw [ih]
    by_cases e : i = t
    · subst e; simp
    · have e' : ¬ t = i := fun h => e h.symm
      simp [e, e']

section
variable {P : Program} {w0 : World} {φ φ1 : Phi} {σ : ASt} {w w1 : World} {a : Frame} {ac : Act} {nt nt0 : Nat}

theorem fr_restrict (l : List Nat) (fr : FR φ w a ac.tmps) : FR φ w (restrict l a) ac.tmps := by
  intro t
  rw [fget_restrict]
  split
  · exact fr t
  · exact .undef _

def OXC (w0 : World) (φ1 : Phi) (w1 : World) (nt : Nat) (e : AExit) (a : AAct) (σ : ASt) (e' : Exit) (ac : Act) (w : World) : Prop :=
  ∃ φ, Ext φ1 w1 φ w ∧ Sim w0 φ σ w ∧ FR φ w a.a ac.tmps ∧ ac.tmps.size = nt ∧ DRs φ w a.d ac.defers ∧ XOk φ w e e'

/-- What comes of code stands behind it. -/
def AfterC (w0 : World) (φ1 : Phi) (w1 : World) (nt : Nat) (r : R (AExit × AAct)) (Q : Exit → Act → World → Prop) : Prop :=
  match r with
  | .ok (e, a) σ => ∀ e' ac w, OXC w0 φ1 w1 nt e a σ e' ac w → Q e' ac w
  | _ => False

theorem after_of_afterC {Q : Exit → Act → World → Prop} {ds : List Deferred} {ls : List IOper} {live : List Nat} {d : List (AVal × List AVal)} {r : R (AExit × Frame)} (x : Ext φ1 w1 φ w) (hd : DRs φ w d ds)
    (h : AfterC w0 φ1 w1 nt (opsM ls live d r) Q) : After w0 φ w nt ds ls r Q := by
  cases r with
  | ok p σ =>
    obtain ⟨e, a⟩ := p
    intro e' ac w' ⟨φ', k1, k2, k3, k4, k5, k6⟩
    cases e with
    | norm => exact h e' ac w' ⟨φ', x.trans k1, k2, fr_restrict live k3, k4, k5 ▸ hd.mono k1, k6⟩
    | _ => exact h e' ac w' ⟨φ', x.trans k1, k2, k3, k4, k5 ▸ hd.mono k1, k6⟩
  | panic v σ => exact h.elim
  | bad => exact h.elim

theorem mapM_mem {α β : Type} {f : α → Option β} : ∀ {l : List α} {r : List β}, l.mapM f = some r → r.length = l.length
  | [], r, h => by cases h; rfl
  | x :: l, r, h => by
    simp only [List.mapM_cons, Option.pure_def, Option.bind_eq_bind, Option.bind_eq_some_iff] at h
    obtain ⟨y, _, ys, h2, e⟩ := h
    cases e
    simp [mapM_mem h2]

theorem reserve_n (s : Sim w0 φ σ w) : ∀ k, ∃ φ', Ext φ w φ' w ∧ Sim w0 φ' (σ ++ List.replicate k .dead) w
  | 0 => ⟨φ, .refl φ w, by simpa using s⟩
  | k + 1 => by
    obtain ⟨φ', x, s'⟩ := reserve_n s k
    obtain ⟨x2, s2⟩ := s'.reserve
    refine ⟨_, x.trans x2, ?_⟩
    rw [List.replicate_succ']
    simpa using s2

theorem res_after {call : FuncId → List AVal → M AVal} {k : Nat} {l : List IOper} {ds : List Deferred} {Q : Exit → Act → World → Prop} (h : After w0 φ1 w1 nt ds (withRes k l) (evOps call (withRes k l) a σ) Q) (s : Sim w0 φ σ w) :
    ∃ φ' σ', Ext φ w φ' w ∧ Sim w0 φ' σ' w ∧ After w0 φ1 w1 nt ds (withRes k l) (evOps call l a σ') Q := by
  cases k with
  | zero => exact ⟨φ, σ, .refl φ w, s, h⟩
  | succ k =>
    obtain ⟨φ', x, s'⟩ := reserve_n s (k + 1)
    refine ⟨φ', _, x, s', ?_⟩
    simp only [withRes] at h ⊢
    rw [evOps_plain rfl rfl] at h
    exact h

theorem withRes_mem {k : Nat} {l : List IOper} {x : IOper} (h : x ∈ l) : x ∈ withRes k l := by
  cases k with
  | zero => exact h
  | succ k => exact List.mem_cons_of_mem _ h

theorem reg_ok (hle : nt0 ≤ nt) {call : FuncId → List AVal → M AVal} (hc : CallOk P w0 call) {ops : Array Oper} {draw : Bool} {l : List IOper} (h : trReg P nt0 ops draw = some l) (s : Sim w0 φ σ w) (fr : FR φ w a ac.tmps) (hn : ac.tmps.size = nt)
    {Q : Exit → Act → World → Prop} (id : Nat) (hr : After w0 φ w nt ac.defers l (evOps call l a σ) Q) : (Code.region id ops draw).wp P Q ac w := by
  cases draw with
  | false => exact wp_region (text_ok hle hc _ _ φ σ w a ac h s (Ext.refl φ w) fr hn rfl hr)
  | true =>
    simp only [trReg] at h
    split at h
    · rename_i hcond
      simp only [Bool.and_eq_true, List.all_eq_true, List.mem_range, List.contains_iff_mem] at hcond
      simp only [Option.map_eq_some_iff] at h
      obtain ⟨r, hr1, rfl⟩ := h
      obtain ⟨k1, k2, k3, _, k5⟩ := trDraw_ok _ _ _ hr1
      refine wp_region_any hcond.2 ?_
      obtain ⟨φr, σr, xr, sr, hr⟩ := res_after hr s
      obtain ⟨s', x'⟩ := sr.drew
      have hidx : ∀ x ∈ r, x.1 < ops.size := fun x hx => by
        obtain ⟨_, o, _, _, ho, _⟩ := k2 x hx
        exact (Array.getElem?_eq_some_iff.1 ho).1
      have hlen : ops.size = r.length := by
        have hnd : (r.map (·.1)).Nodup := by
          rw [List.Nodup, List.pairwise_map]
          exact k3.imp fun h => (pairOk_spec h.1).1
        have h1 : (r.map (·.1)).length ≤ (List.range ops.size).length := List.Nodup.length_le_of_subset hnd (fun j hj => by
          obtain ⟨x, hx, rfl⟩ := List.mem_map.1 hj
          exact List.mem_range.2 (hidx x hx))
        have h2 : (List.range ops.size).length ≤ (r.map (·.1)).length := List.Nodup.length_le_of_subset List.nodup_range (fun j hj => by
          rw [k1]; exact hcond.1 j (List.mem_range.1 hj))
        simp at h1 h2
        omega
      refine draw_any (φ1 := φ) (w1 := w) (ls := withRes (floatsOf P ops (befOf (befGo [] ops.toList))).length (r.map (·.2))) (φ := φr) (σ := σr) (a := a) (b := a) (pq := []) (rest := r) (ds := ac.defers) hle hc (fun j o ho i hi => bef_ok ho hi) ops.size _ (by simpa using hlen) ?_
      refine ⟨by simp, fun j => ?_, fun i j _ hj => ?_, by simpa using k2, by simpa using k3, by simp, s', xr.trans x', fun t => (fr t).mono (xr.trans x'), fun _ _ => rfl, hn, rfl, fun x hx => withRes_mem (List.mem_map_of_mem (by simpa using hx)), fun l1 x l2 e => by simpa using k5 l1 x l2 e, hr⟩
      · constructor
        · intro hj
          rcases Nat.lt_or_ge j ops.size with hlt | hge
          · have := hcond.1 j hlt
            rw [← k1] at this
            obtain ⟨x, hx, e⟩ := List.mem_map.1 this
            exact ⟨x, by simpa using hx, e⟩
          · simp [hge] at hj
        · rintro ⟨x, hx, rfl⟩
          have := hidx x (by simpa using hx)
          simp [this]
      · rcases Nat.lt_or_ge j ops.size with hlt | hge
        · simp [hlt] at hj
        · simp [hge] at hj
    · cases h

theorem wpOp_exits {ops : Array Oper} {Q Q' : Exit → Act → World → Prop} {i : Nat} {K : Act → World → Prop} (h1 : ∀ c a w, Q' (.panic c) a w → Q (.panic c) a w) (h2 : LetsOut Q' → LetsOut Q) (h : wpOp P ops Q' i K ac w) : wpOp P ops Q i K ac w := by
  unfold wpOp at *
  cases ho : ops[i]? with
  | none => rw [ho] at h; exact h
  | some o =>
    rw [ho] at h
    simp only [] at h ⊢
    split
    · rename_i hw
      rw [if_pos hw] at h
      rcases h with h | h
      · left
        unfold Oper.wp at *
        generalize (execOp ac.eval o).run P w = r at *
        cases r with
        | ok n w' =>
          cases n <;> simp only [Oper.upon] at h ⊢ <;> first | exact h | (refine Calls.mono h (fun e w'' he => ?_); cases e <;> first | exact he | exact h1 _ _ _ he | exact h2 he)
        | halt x w' => cases x <;> simp only [Oper.upon] at h ⊢ <;> first | exact h | exact h1 _ _ _ h
      · exact .inr ⟨h.1, h2 h.2⟩
    · rename_i hw
      rw [if_neg hw] at h
      exact h

theorem wpOps_append {ops : Array Oper} {Q : Exit → Act → World → Prop} (l2 : List Nat) : ∀ (l1 : List Nat) (ac : Act) (w : World), wpOps P ops (Exit.then (wpOps P ops Q l2) Q) l1 ac w → wpOps P ops Q (l1 ++ l2) ac w
  | [], ac, w, h => h
  | i :: l1, ac, w, h => by
    rw [List.cons_append, wpOps_cons]
    rw [wpOps_cons] at h
    exact wpOp_mono (fun a w h => wpOps_append l2 l1 a w h) (wpOp_exits (fun c a w h => h) (fun ⟨a, w, h⟩ => ⟨a, w, h⟩) h)

theorem regD_ok (hle : nt0 ≤ nt) {call : FuncId → List AVal → M AVal} (hc : CallOk P w0 call) {ops : Array Oper} {l : List IOper} {x : IOpd} {as : List IOpd} (h : trRegD P nt0 ops = some (l, x, as)) (s : Sim w0 φ σ w) (fr : FR φ w a ac.tmps) (hn : ac.tmps.size = nt)
    {Q : Exit → Act → World → Prop} (id n : Nat) (live : List Nat) (x1 : Ext φ1 w1 φ w) {d : List (AVal × List AVal)} (hd : DRs φ w d ac.defers) (hr : AfterC w0 φ1 w1 nt ((ICode.seq (.ops l live) (.defer x as)).ev n call ⟨a, d⟩ σ) Q) : (Code.region id ops false).wp P Q ac w := by
  unfold trRegD at h
  split at h
  · cases h
  · rename_i m hm
    split at h
    · rename_i l' hl
      split at h
      · rename_i x' as' ho
        cases h
        refine wp_region ?_
        rw [hm, List.range_succ]
        refine wpOps_append _ _ _ _ ?_
        refine text_ok hle hc _ _ φ σ w a ac hl s (Ext.refl φ w) fr hn rfl (ls := l) (ds := ac.defers) ?_
        simp only [ICode.ev] at hr
        cases hv : evOps call l a σ with
        | bad => rw [hv] at hr; exact hr.elim
        | panic v σ' => rw [hv] at hr; exact hr.elim
        | ok p σ' =>
          obtain ⟨e, a'⟩ := p
          rw [hv] at hr
          intro e' ac' w' ⟨φ', k1, k2, k3, k4, k5, k6⟩
          cases e with
          | norm =>
            cases e' <;> simp only [XOk] at k6
            simp only [opsM, thenM] at hr
            simp only [Exit.then]
            have hfr : FR φ' w' (restrict live a') ac'.tmps := fr_restrict live k3
            simp only [Option.bind_eq_some_iff] at ho
            obtain ⟨o, ho, hdf⟩ := ho
            unfold trDefer at hdf
            split at hdf
            · rename_i c hop hg hdst
              split at hdf
              · rename_i y hcal
                split at hdf
                · rename_i y' as'' hy has
                  cases hdf
                  have hvx := opd_ok hfr hy
                  have hvs := opds_ok hfr has
                  cases hx : x.ev (restrict live a') with
                  | func fn first cap =>
                    rw [hx] at hvx hr
                    simp only [] at hr
                    obtain ⟨first', cap', h1, h3, h4⟩ := vr_func_inv hvx
                    have hrun : (execOp ac'.eval o).run P w' = .ok (.defer { target := .fn fn cap'.toArray, args := (first' ++ c.args.toList.map ac'.eval).toArray }) w' := by
                      simp only [execOp, hop, resolve, hcal, h1, Deferred.ofValue, Sem.run_bind, Sem.run_pure, Result.andThen_ok]
                      rw [← map_arr]
                      simp
                    rw [wpOps_cons]
                    unfold wpOp
                    rw [ho]
                    simp only [Region.wanted, hg, if_true]
                    refine .inl ?_
                    unfold Oper.wp
                    rw [hrun]
                    simp only [Oper.upon, hdst, Act.put]
                    refine hr .normal _ w' ⟨φ', x1.trans k1, k2, hfr, k4, ?_, trivial⟩
                    rw [k5]
                    exact .cons (.mk fn first cap _ first' cap' _ h3 h4 hvs) (hd.mono k1)
                  | _ => rw [hx] at hr; exact hr.elim
                · cases hdf
              · cases hdf
            · cases hdf
          | panic v =>
            cases e' <;> simp only [XOk] at k6
            exact hr _ ac' w' ⟨φ', x1.trans k1, k2, k3, k4, k5 ▸ hd.mono k1, k6⟩
          | ret =>
            cases e' <;> simp only [XOk] at k6
            exact hr _ ac' w' ⟨φ', x1.trans k1, k2, k3, k4, k5 ▸ hd.mono k1, k6⟩
          | exit i =>
            cases e' <;> simp only [XOk] at k6
            exact hr _ ac' w' ⟨φ', x1.trans k1, k2, k3, k4, k5 ▸ hd.mono k1, k6⟩
      · cases h
    · cases h

theorem AfterC.ne {r : R (AExit × AAct)} {Q : Exit → Act → World → Prop} (h : AfterC w0 φ1 w1 nt r Q) : ∃ e a σ, r = .ok (e, a) σ := by
  cases r with
  | ok p σ => exact ⟨p.1, p.2, σ, rfl⟩
  | panic v σ => exact h.elim
  | bad => exact h.elim

/-- CODE. -/
theorem code_ok (hle : nt0 ≤ nt) {call : FuncId → List AVal → M AVal} (hc : CallOk P w0 call) (n : Nat) : ∀ (c : Code) (h i : ICode), trC P nt0 c h = some i → ∀ (Q : Exit → Act → World → Prop) (φ : Phi) (σ : ASt) (w : World) (a : Frame) (ac : Act) (d : List (AVal × List AVal)),
    Sim w0 φ σ w → Ext φ1 w1 φ w → FR φ w a ac.tmps → ac.tmps.size = nt → DRs φ w d ac.defers → AfterC w0 φ1 w1 nt (i.ev n call ⟨a, d⟩ σ) Q → c.wp P Q ac w := by
  intro c
  induction c with
  | skip =>
    intro h i ht Q φ σ w a ac d s x fr hn hd hr
    simp only [trC] at ht
    cases ht
    exact wp_skip (hr .normal ac w ⟨φ, x, s, fr, hn, hd, trivial⟩)
  | label l =>
    intro h i ht Q φ σ w a ac d s x fr hn hd hr
    simp only [trC] at ht
    cases ht
    exact wp_label (hr .normal ac w ⟨φ, x, s, fr, hn, hd, trivial⟩)
  | ret =>
    intro h i ht Q φ σ w a ac d s x fr hn hd hr
    simp only [trC] at ht
    cases ht
    exact wp_ret (hr .ret ac w ⟨φ, x, s, fr, hn, hd, trivial⟩)
  | exit id =>
    intro h i ht Q φ σ w a ac d s x fr hn hd hr
    simp only [trC] at ht
    cases ht
    exact wp_exit (hr (.exit id) ac w ⟨φ, x, s, fr, hn, hd, rfl⟩)
  | region id ops draw =>
    intro h i ht Q φ σ w a ac d s x fr hn hd hr
    cases h with
    | ops hl live =>
      simp only [trC, Option.map_eq_some_iff] at ht
      obtain ⟨l, h1, rfl⟩ := ht
      exact reg_ok hle hc h1 s fr hn id (after_of_afterC x hd hr)
    | seq hx hy =>
      cases draw with
      | true => simp [trC] at ht
      | false =>
        cases hx with
        | ops hl live =>
          simp only [trC, Option.map_eq_some_iff] at ht
          obtain ⟨⟨l, y, as⟩, h1, rfl⟩ := ht
          exact regD_ok hle hc h1 s fr hn id n live x hd hr
        | _ => simp [trC] at ht
    | _ => simp [trC] at ht
  | seq x y ihx ihy =>
    intro h i ht Q φ σ w a ac d s x1 fr hn hd hr
    cases h with
    | seq hx hy =>
      simp only [trC] at ht
      split at ht
      · rename_i x' y' h1 h2
        cases ht
        refine wp_seq (ihx hx x' h1 _ φ σ w a ac d s x1 fr hn hd ?_)
        simp only [ICode.ev] at hr
        cases hv : x'.ev n call ⟨a, d⟩ σ with
        | bad => rw [hv] at hr; exact hr.elim
        | panic v σ' => rw [hv] at hr; exact hr.elim
        | ok p σ' =>
          obtain ⟨e, b⟩ := p
          rw [hv] at hr
          intro e' ac' w' ⟨φ', k1, k2, k3, k4, k5, k6⟩
          cases e with
          | norm =>
            cases e' <;> simp only [XOk] at k6
            exact ihy hy y' h2 Q φ' σ' w' b.a ac' b.d k2 k1 k3 k4 k5 hr
          | _ =>
            cases e' <;> simp only [XOk] at k6
            exact hr _ ac' w' ⟨φ', k1, k2, k3, k4, k5, k6⟩
      · cases ht
    | _ => simp [trC] at ht
  | cond c x y ihx ihy =>
    intro h i ht Q φ σ w a ac d s x1 fr hn hd hr
    cases h with
    | cond hc' hx hy =>
      simp only [trC] at ht
      split at ht
      · rename_i c' x' y' h0 h1 h2
        cases ht
        have hv := opd_ok fr h0
        simp only [ICode.ev] at hr
        cases hcv : c'.ev a with
        | bool b =>
          rw [hcv] at hr hv
          have hv' : ac.eval c = .bool b := by
            generalize ac.eval c = cv at hv
            cases hv; rfl
          cases b with
          | true => exact wp_cond_true hv' (ihx hx x' h1 Q φ σ w a ac d s x1 fr hn hd hr)
          | false => exact wp_cond_false hv' (ihy hy y' h2 Q φ σ w a ac d s x1 fr hn hd hr)
        | _ => rw [hcv] at hr; exact hr.elim
      · cases ht
    | _ => simp [trC] at ht
  | block id x ihx =>
    intro h i ht Q φ σ w a ac d s x1 fr hn hd hr
    cases h with
    | block id' hx =>
      simp only [trC, Option.map_eq_some_iff] at ht
      obtain ⟨x', h1, rfl⟩ := ht
      refine wp_block (ihx hx x' h1 _ φ σ w a ac d s x1 fr hn hd ?_)
      simp only [ICode.ev] at hr
      cases hv : x'.ev n call ⟨a, d⟩ σ with
      | bad => rw [hv] at hr; exact hr.elim
      | panic v σ' => rw [hv] at hr; exact hr.elim
      | ok p σ' =>
        obtain ⟨e, b⟩ := p
        rw [hv] at hr
        intro e' ac' w' ⟨φ', k1, k2, k3, k4, k5, k6⟩
        cases e with
        | exit j =>
          cases e' <;> simp only [XOk] at k6
          subst k6
          simp only [blockM] at hr
          simp only [Exit.inBlock]
          by_cases hj : j = id
          · subst hj
            simp only [if_true] at hr
            simp only [if_true]
            exact hr .normal ac' w' ⟨φ', k1, k2, k3, k4, k5, trivial⟩
          · rw [if_neg hj] at hr
            rw [if_neg hj]
            exact hr _ ac' w' ⟨φ', k1, k2, k3, k4, k5, rfl⟩
        | _ =>
          cases e' <;> simp only [XOk] at k6
          exact hr _ ac' w' ⟨φ', k1, k2, k3, k4, k5, k6⟩
    | _ => simp [trC] at ht
  | loop x ihx =>
    intro h i ht Q φ σ w a ac d s x1 fr hn hd hr
    cases h with
    | loop live hx =>
      simp only [trC, Option.map_eq_some_iff] at ht
      obtain ⟨x', h1, rfl⟩ := ht
      simp only [ICode.ev] at hr
      refine wp_loop_rounds n ?_
      have key : ∀ (k : Nat) (φ : Phi) (σ : ASt) (w : World) (b : AAct) (ac : Act), Sim w0 φ σ w → Ext φ1 w1 φ w → FR φ w b.a ac.tmps → ac.tmps.size = nt → DRs φ w b.d ac.defers →
          AfterC w0 φ1 w1 nt (loopN (fun a => x'.ev n call ⟨restrict live a.a, a.d⟩) k b σ) Q → Code.rounds P x Q k ac w := by
        intro k
        induction k with
        | zero => intro φ σ w b ac s x1 fr hn hd hr; exact hr.elim
        | succ k ih =>
          intro φ σ w b ac s x1 fr hn hd hr
          rw [rounds_succ]
          refine ihx hx x' h1 _ φ σ w _ ac b.d s x1 (fr_restrict live fr) hn hd ?_
          simp only [loopN] at hr
          cases hv : x'.ev n call ⟨restrict live b.a, b.d⟩ σ with
          | bad => rw [hv] at hr; exact hr.elim
          | panic v σ' => rw [hv] at hr; exact hr.elim
          | ok p σ' =>
            obtain ⟨e, b'⟩ := p
            rw [hv] at hr
            intro e' ac' w' ⟨φ', k1, k2, k3, k4, k5, k6⟩
            cases e with
            | norm =>
              cases e' <;> simp only [XOk] at k6
              exact ih φ' σ' w' b' ac' k2 k1 k3 k4 k5 hr
            | _ =>
              cases e' <;> simp only [XOk] at k6
              exact hr _ ac' w' ⟨φ', k1, k2, k3, k4, k5, k6⟩
      exact key n φ σ w ⟨a, d⟩ ac s x1 fr hn hd hr
    | _ => simp [trC] at ht
  | scope x ihx =>
    intro h i ht Q φ σ w a ac d s x1 fr hn hd hr
    simp only [trC] at ht
    refine wp_scope_straight (ihx h i ht _ φ σ w a ac d s x1 fr hn hd ?_)
    obtain ⟨e, b, σ', hv⟩ := hr.ne
    rw [hv] at hr ⊢
    intro e' ac' w' k
    have hq := hr e' ac' w' k
    obtain ⟨φ', k1, k2, k3, k4, k5, k6⟩ := k
    cases e' <;> first | exact hq | (cases e <;> simp only [XOk] at k6)
  | goto l => intro h i ht; simp [trC] at ht
  | refuse y =>
    intro h i ht Q φ σ w a ac d s x fr hn hd hr
    simp only [trC] at ht
    cases ht
    exact hr.elim
  | rangeFunc f p x y => intro h i ht; simp [trC] at ht

end
end Go.Am

namespace Go.Am
open Go Go.RowKit

def trRes (P : Program) : List ResultVar → Option (List IRes)
  | [] => some []
  | .tmp t :: l => (trRes P l).map (.slot t :: ·)
  | .cell t ty :: l => match shp P ty with
    | some n => (trRes P l).map (.cell t n :: ·)
    | none => none

/-- A function of the program has this form in the abstract layer. -/
def Holds (P : Program) (f : FuncId) (fn : IFunc) : Prop :=
  ∃ fc c, P.funcs[f]? = some fc ∧ fc.name ≠ "runtime.NumGoroutine" ∧ fc.body = some c ∧ trC P fc.ntmps c fn.body = some fn.body ∧ trRes P fc.results.toList = some fn.res

def MR (φ : Phi) (w : World) : Mode → FrameMode → Prop
  | none, .returning => True
  | some v, .panicking chain => ∃ cv, chain = [{ v := cv, recovered := false }] ∧ VR φ w v cv
  | _, _ => False

/-- What is reckoned of deferred calls is so. -/
def DPrimOk (P : Program) (w0 : World) (dp : DPrim) : Prop :=
  ∀ k p, dp k = some p → Callable P k ∧ ∀ args m σ m' σ', p args m σ = .ok m' σ' → ∀ φ w cargs u, Sim w0 φ σ w → VRs φ w args cargs → MR φ w m u →
    CallsD P k cargs.toArray u w fun e u' w' => (∃ cv, e = .returned cv) ∧ ∃ φ', Ext φ w φ' w' ∧ Sim w0 φ' σ' w' ∧ MR φ' w' m' (settle u')

def PrimOk (P : Program) (w0 : World) (f : FuncId) (p : List AVal → M AVal) : Prop :=
  ∀ args σ, p args σ ≠ .bad → Callable P f ∧ ∀ φ w cargs, Sim w0 φ σ w → VRs φ w args cargs → Calls P f cargs.toArray w (CPost w0 φ w (p args σ))

structure EnvOk (P : Program) (w0 : World) (E : Env) : Prop where
  fns : ∀ f fn, E.fns f = some fn → Holds P f fn
  prim : ∀ f p, E.prim f = some p → PrimOk P w0 f p
  dp : DPrimOk P w0 E.dp
  fmt : FmtOk P w0

section
variable {P : Program} {w0 : World} {φ φ1 : Phi} {σ : ASt} {w w1 : World} {a : Frame} {ac : Act}

theorem fr_enter {args : List AVal} {cargs : List Value} (h : VRs φ w args cargs) (k : Nat) : FR φ w (enter args) (cargs.toArray ++ Array.replicate k undef) := by
  have key : ∀ (l : List AVal) (j t : Nat), fget ((l.zipIdx j).map fun (v, i) => (i, v)) t = if j ≤ t then (l[t - j]?).getD .undef else .undef := by
    intro l
    induction l with
    | nil => intro j t; simp [fget]
    | cons x l ih =>
      intro j t
      simp only [List.zipIdx_cons, List.map_cons, fget]
      rw [ih]
      by_cases e : j = t
      · subst e; simp
      · rw [if_neg e]
        by_cases h1 : j + 1 ≤ t
        · have h2 : t - j = (t - (j + 1)) + 1 := by omega
          rw [if_pos h1, if_pos (by omega), h2, List.getElem?_cons_succ]
        · rw [if_neg h1, if_neg (by omega)]
  intro t
  unfold enter
  rw [key]
  simp only [Nat.zero_le, if_true, Nat.sub_zero]
  cases ha : args[t]? with
  | none => exact .undef _
  | some v =>
    have ht : t < args.length := by
      rcases Nat.lt_or_ge t args.length with h' | h'
      · exact h'
      · simp [List.getElem?_eq_none h'] at ha
    have hc : t < cargs.length := h.1 ▸ ht
    simp only [Option.getD_some]
    have e : (cargs.toArray ++ Array.replicate k undef).getD t undef = cargs[t] := by
      rw [Array.getD_eq_getD_getElem?, Array.getElem?_append_left (by simpa using hc)]
      simp [hc]
    rw [e]
    exact h.2 t v _ ha (by simp [hc])

def res1 (tmps : Array Value) : ResultVar → Sem Value
  | .tmp t => pure (tmps.getD t undef)
  | .cell a t => do loadVar t (← asAddr (tmps.getD a undef))

theorem results_eq (fn : Func) (tmps : Array Value) : results fn tmps = (do let vs ← fn.results.mapM (res1 tmps); pure (if h : vs.size = 1 then vs[0] else .tuple vs)) := rfl

theorem res1_cell {t : Tmp} {ty : TypeId} {tmps : Array Value} {b o : Nat} (h : tmps.getD t undef = .pointer (some ⟨b, o, none⟩)) : res1 tmps (.cell t ty) = loadVar ty ⟨b, o, none⟩ := by
  simp only [res1, h, asAddr, pure_bind]

theorem res_ok1 (s : Sim w0 φ σ w) (fr : FR φ w a ac.tmps) : ∀ (rs : List ResultVar) (is : List IRes) (vs : List AVal), trRes P rs = some is → (is.mapM fun r => IRes.ev a σ r) = some vs →
    ∃ cs, (rs.mapM (res1 ac.tmps)).run P w = .ok cs w ∧ VRs φ w vs cs
  | [], is, vs, h, k => by cases h; cases k; exact ⟨[], by simp, ⟨rfl, by simp⟩⟩
  | r :: rs, is, vs, h, k => by
    cases r with
    | tmp t =>
      simp only [trRes, Option.map_eq_some_iff] at h
      obtain ⟨is', h', rfl⟩ := h
      simp only [List.mapM_cons, Option.pure_def, Option.bind_eq_bind, Option.bind_eq_some_iff] at k
      obtain ⟨v, hv, vs', hvs, e⟩ := k
      cases e
      obtain ⟨cs, h1, h2⟩ := res_ok1 s fr rs is' vs' h' hvs
      cases hv
      refine ⟨ac.tmps.getD t undef :: cs, ?_, .cons (fr t) h2⟩
      simp only [List.mapM_cons, Sem.run_bind, res1, Sem.run_pure, Result.andThen_ok, h1]
    | cell t ty =>
      simp only [trRes] at h
      split at h
      · rename_i n hn
        simp only [Option.map_eq_some_iff] at h
        obtain ⟨is', h', rfl⟩ := h
        simp only [List.mapM_cons, Option.pure_def, Option.bind_eq_bind, Option.bind_eq_some_iff] at k
        obtain ⟨v, hv, vs', hvs, e⟩ := k
        cases e
        obtain ⟨cs, h1, h2⟩ := res_ok1 s fr rs is' vs' h' hvs
        obtain ⟨b, o, cv, k1, k2, k3⟩ := aload_ok s (fr t) hn hv
        refine ⟨cv :: cs, ?_, .cons k3 h2⟩
        simp only [List.mapM_cons, Sem.run_bind, res1_cell k1, Sem.run_pure, Result.andThen_ok, k2, h1]
      · cases h

theorem res_ok (s : Sim w0 φ σ w) (fr : FR φ w a ac.tmps) {fn : Func} {is : List IRes} {v : AVal} (h : trRes P fn.results.toList = some is) (k : resOf is a σ = some v) :
    ∃ cv, (results fn ac.tmps).run P w = .ok cv w ∧ VR φ w v cv := by
  have hrun : ∀ cs : List Value, (fn.results.toList.mapM (res1 ac.tmps)).run P w = .ok cs w →
      (results fn ac.tmps).run P w = .ok (if h : cs.toArray.size = 1 then cs.toArray[0] else .tuple cs.toArray) w := by
    intro cs hcs
    rw [results_eq, Sem.run_bind, Array.mapM_eq_mapM_toList, Sem.run_map, hcs]
    rfl
  unfold resOf at k
  split at k
  · rename_i r
    have : ([r].mapM fun r => IRes.ev a σ r) = some [v] := by simp [k]
    obtain ⟨cs, h1, h2⟩ := res_ok1 s fr _ _ _ h this
    obtain ⟨cv, cs', rfl, h3, h4⟩ := h2.inv_cons
    have h5 := h4.1
    simp at h5
    cases cs' with
    | cons => simp at h5
    | nil => exact ⟨cv, by rw [hrun _ h1]; simp, h3⟩
  · rename_i hne
    simp only [Option.map_eq_some_iff] at k
    obtain ⟨vs, k1, rfl⟩ := k
    obtain ⟨cs, h1, h2⟩ := res_ok1 s fr _ _ _ h k1
    refine ⟨.tuple cs.toArray, ?_, .tuple vs cs h2.1 h2.2⟩
    rw [hrun _ h1, dif_neg]
    intro hc
    have hl := h2.1
    have hm := mapM_mem k1
    simp at hc
    rw [hc] at hl
    rw [hl] at hm
    match is, hm with
    | [r], _ => exact hne r rfl

theorem leaves_ok {dp : DPrim} (hdp : DPrimOk P w0 dp) {fn : Func} {rs : List IRes} (hrs : trRes P fn.results.toList = some rs) {φ0 : Phi} {w00 : World} {r : R AVal} :
    ∀ (ds : List (AVal × List AVal)) (es : List Deferred) (m : Mode) (u : FrameMode) (φ : Phi) (σ : ASt) (w : World), DRs φ w ds es → Sim w0 φ σ w → Ext φ0 w00 φ w → FR φ w a ac.tmps → MR φ w m u →
      ((runD dp ds m σ).bind fun m => leave rs a m) = r → r ≠ .bad → Leaves P fn ac.tmps (CPost w0 φ0 w00 r) es u w
  | [], es, m, u, φ, σ, w, hd, s, x, fr, hm, hr, hb => by
    cases hd
    cases m with
    | none =>
      cases u <;> simp only [MR] at hm
      simp only [runD, R.bind_ok, leave] at hr
      cases hv : resOf rs a σ with
      | none => rw [hv] at hr; exact absurd hr.symm hb
      | some v =>
        rw [hv] at hr
        obtain ⟨cv, h1, h2⟩ := res_ok s fr hrs hv
        subst hr
        exact ⟨cv, h1, cv, φ, rfl, h2, x, s⟩
    | some v =>
      cases u <;> simp only [MR] at hm
      obtain ⟨cv, rfl, h2⟩ := hm
      simp only [runD, R.bind_ok, leave] at hr
      subst hr
      exact ⟨cv, φ, rfl, h2, x, s⟩
  | d :: ds, es, m, u, φ, σ, w, hd, s, x, fr, hm, hr, hb => by
    cases hd with
    | cons h hs =>
      cases h with
      | mk fv first cap as first' cap' as' h1 h2 h3 =>
        have hu : u ≠ .run := by
          rintro rfl
          cases m <;> simp [MR] at hm
        simp only [runD] at hr
        cases fv with
        | func k =>
          simp only [] at hr
          cases hk : dp k with
          | none => rw [hk] at hr; exact absurd hr.symm hb
          | some p =>
            rw [hk] at hr
            simp only [] at hr
            obtain ⟨⟨fc, q1, q2, q3⟩, hcall⟩ := hdp k p hk
            cases hp : p (first ++ as ++ cap) m σ with
            | bad => rw [hp] at hr; exact absurd hr.symm hb
            | panic v σ' => rw [hp] at hr; exact absurd hr.symm hb
            | ok m' σ' =>
              rw [hp] at hr
              have hc := hcall _ m σ m' σ' hp φ w (first' ++ as' ++ cap') u s ((h1.append h3).append h2) hm
              refine ⟨hu, .func k, cap'.toArray, k, (first' ++ as' ++ cap').toArray, rfl, ?_, hc.mono fun e u' w' h => ?_⟩
              · simp only [invoke]
                rw [run_callFunc q1 q2 q3]
                simp
              · obtain ⟨⟨cv, rfl⟩, φ', k1, k2, k3⟩ := h
                exact leaves_ok hdp hrs ds _ m' _ φ' σ' w' (hs.mono k1) k2 (x.trans k1) (fun t => (fr t).mono k1) k3 hr hb
        | _ => exact absurd hr.symm hb

/-- A FUNCTION. -/
theorem fun_ok {f : FuncId} {fn : IFunc} (h : Holds P f fn) {call : FuncId → List AVal → M AVal} (hc : CallOk P w0 call) {dp : DPrim} (hdp : DPrimOk P w0 dp) (n : Nat) :
    PrimOk P w0 f fun args σ => bodyM dp fn.res (fn.body.ev n call ⟨enter args, []⟩ σ) := by
  intro args σ hb
  obtain ⟨fc, c, h1, h2, h3, h4, h5⟩ := h
  refine ⟨⟨fc, h1, h2, by simp [h3]⟩, fun φ w cargs s hv => ?_⟩
  refine calls_of_wp_defers h1 h3 ?_
  refine code_ok (w0 := w0) (φ1 := φ) (w1 := w) (nt0 := fc.ntmps) (nt := (cargs.toArray ++ Array.replicate (fc.ntmps - cargs.toArray.size) undef).size) (by simp; omega) hc n c fn.body fn.body h4 _ φ σ w (enter args) _ [] s (.refl φ w) (fr_enter hv _) rfl .nil ?_
  cases hr : fn.body.ev n call ⟨enter args, []⟩ σ with
  | bad => simp only [hr, bodyM] at hb; exact absurd rfl hb
  | panic v σ' => simp only [hr, bodyM] at hb; exact absurd rfl hb
  | ok p σ' =>
    obtain ⟨e, b⟩ := p
    intro e' ac' w' ⟨φ', k1, k2, k3, k4, k5, k6⟩
    cases e with
    | norm =>
      cases e' <;> simp only [XOk] at k6
      exact leaves_ok hdp h5 b.d ac'.defers none .returning φ' σ' w' k5 k2 k1 k3 trivial (by simp only [hr, bodyM]) (by simpa only [hr] using hb)
    | ret =>
      cases e' <;> simp only [XOk] at k6
      exact leaves_ok hdp h5 b.d ac'.defers none .returning φ' σ' w' k5 k2 k1 k3 trivial (by simp only [hr, bodyM]) (by simpa only [hr] using hb)
    | panic v =>
      cases e' <;> simp only [XOk] at k6
      exact leaves_ok hdp h5 b.d ac'.defers (some v) (.panicking _) φ' σ' w' k5 k2 k1 k3 k6 (by simp only [hr, bodyM]) (by simpa only [hr] using hb)
    | exit i => simp only [hr, bodyM] at hb; exact absurd rfl hb

/-- CALLS. -/
theorem evF_ok {E : Env} (h : EnvOk P w0 E) : ∀ n, CallOk P w0 (evF E n)
  | 0 => ⟨h.fmt, fun f args σ hb => absurd rfl hb⟩
  | n + 1 => ⟨h.fmt, fun f args σ hb => by
    unfold evF at hb ⊢
    cases hp : E.prim f with
    | some p =>
      simp only [hp] at hb ⊢
      exact h.prim f p hp args σ hb
    | none =>
      simp only [hp] at hb ⊢
      cases hf : E.fns f with
      | none => simp only [hf] at hb; exact absurd rfl hb
      | some fn =>
        simp only [hf] at hb ⊢
        exact fun_ok (h.fns f fn hf) (evF_ok h n) h.dp n args σ hb⟩

end
end Go.Am

namespace Go.Am
open Go Go.RowKit

/-- A deferred function that neither defers nor recovers. -/
noncomputable def dpFun (n : Nat) (call : FuncId → List AVal → M AVal) (fn : IFunc) : List AVal → Mode → M Mode := fun args m σ =>
  match fn.body.ev n call ⟨enter args, []⟩ σ with
  | .ok (.norm, ⟨a, []⟩) σ' | .ok (.ret, ⟨a, []⟩) σ' => match resOf fn.res a σ' with | some _ => .ok m σ' | none => .bad
  | _ => .bad

/-- A deferred function that recovers first: where it puts what it finds, the rest of its first region, the rest of its code. -/
structure RFunc where
  dst : Nat
  ops : List IOper
  live : List Nat
  rest : ICode
  res : List IRes

def HoldsR (P : Program) (f : FuncId) (fn : RFunc) : Prop :=
  ∃ fc id ops c o args ats, P.funcs[f]? = some fc ∧ fc.name ≠ "runtime.NumGoroutine" ∧ fc.body = some (.seq (.region id ops false) c) ∧ ops[0]? = some o ∧ o.op = .call { callee := .builtin .recover, args := args, argTypes := ats } ∧ o.guard = none ∧ o.dst = some fn.dst ∧ fn.dst < fc.ntmps ∧
    ((List.range' 1 (ops.size - 1)).mapM fun i => (ops[i]?).bind fun o => trOper P fc.ntmps ops none o []) = some fn.ops ∧ trC P fc.ntmps c fn.rest = some fn.rest ∧ trRes P fc.results.toList = some fn.res

def Mode.found : Mode → AVal
  | none => .nilIface
  | some v => v

noncomputable def dpRec (n : Nat) (call : FuncId → List AVal → M AVal) (fn : RFunc) : List AVal → Mode → M Mode := fun args m σ =>
  match evOps call fn.ops (fput (enter args) (some fn.dst) m.found) σ with
  | .ok (.norm, a) σ1 => match fn.rest.ev n call ⟨restrict fn.live a, []⟩ σ1 with
    | .ok (.norm, ⟨a, []⟩) σ' | .ok (.ret, ⟨a, []⟩) σ' => match resOf fn.res a σ' with | some _ => .ok none σ' | none => .bad
    | _ => .bad
  | _ => .bad

section
variable {P : Program} {w0 : World} {φ φ1 : Phi} {σ : ASt} {w w1 : World} {a : Frame} {ac : Act}

theorem settle_mr {m : Mode} {u : FrameMode} (h : MR φ w m u) : settle u = u := by
  cases m with
  | none => cases u <;> simp only [MR] at h; rfl
  | some v =>
    cases u <;> simp only [MR] at h
    obtain ⟨cv, rfl, _⟩ := h
    rfl

theorem MR.mono {φ' : Phi} {w' : World} (x : Ext φ w φ' w') {m : Mode} {u : FrameMode} (h : MR φ w m u) : MR φ' w' m u := by
  cases m with
  | none => cases u <;> simp only [MR] at h ⊢
  | some v =>
    cases u <;> simp only [MR] at h ⊢
    obtain ⟨cv, rfl, h⟩ := h
    exact ⟨cv, rfl, h.mono x⟩

theorem drs_nil {es : List Deferred} (h : DRs φ w [] es) : es = [] := by cases h; rfl

/-- What is asked of one deferred function. -/
def DOk (P : Program) (w0 : World) (k : FuncId) (p : List AVal → Mode → M Mode) : Prop :=
  Callable P k ∧ ∀ args m σ m' σ', p args m σ = .ok m' σ' → ∀ φ w cargs u, Sim w0 φ σ w → VRs φ w args cargs → MR φ w m u →
    CallsD P k cargs.toArray u w fun e u' w' => (∃ cv, e = .returned cv) ∧ ∃ φ', Ext φ w φ' w' ∧ Sim w0 φ' σ' w' ∧ MR φ' w' m' (settle u')

theorem dpFun_ok {f : FuncId} {fn : IFunc} (h : Holds P f fn) {n : Nat} {call : FuncId → List AVal → M AVal} (hc : CallOk P w0 call) : DOk P w0 f (dpFun n call fn) := by
  obtain ⟨fc, c, h1, h2, h3, h4, h5⟩ := h
  refine ⟨⟨fc, h1, h2, by simp [h3]⟩, fun args m σ m' σ' hp φ w cargs u s hv hm => ?_⟩
  refine callsD_of_wpS h1 h3 fun c0 cs hu => wpS_of_wp ?_
  refine code_ok (w0 := w0) (φ1 := φ) (w1 := w) (nt0 := fc.ntmps) (nt := (cargs.toArray ++ Array.replicate (fc.ntmps - cargs.toArray.size) undef).size) (by simp; omega) hc n c fn.body fn.body h4 _ φ σ w (enter args) _ [] s (.refl φ w) (fr_enter hv _) rfl .nil ?_
  unfold dpFun at hp
  have fin : ∀ a σ1, (match resOf fn.res a σ1 with | some _ => R.ok m σ1 | none => R.bad) = .ok m' σ' → ∀ (ac : Act) w' φ', Ext φ w φ' w' → Sim w0 φ' σ1 w' → FR φ' w' a ac.tmps → DRs φ' w' [] ac.defers →
      ac.defers = [] ∧ ∃ u', { c0 with mode := u } :: cs = { c0 with mode := u' } :: cs ∧ ∃ v, (results fc ac.tmps).run P w' = .ok v w' ∧ ((∃ cv, Ending.returned v = .returned cv) ∧ ∃ φ', Ext φ w φ' w' ∧ Sim w0 φ' σ' w' ∧ MR φ' w' m' (settle u')) := by
    intro a σ1 hp ac w' φ' k1 k2 k3 k5
    split at hp
    · rename_i v hres
      cases hp
      obtain ⟨cv, q1, q2⟩ := res_ok k2 k3 h5 hres
      have hd := drs_nil k5
      exact ⟨hd, u, rfl, cv, q1, ⟨cv, rfl⟩, φ', k1, k2, by rw [settle_mr hm]; exact hm.mono k1⟩
    · cases hp
  have hcs : c0 :: cs = { c0 with mode := u } :: cs := by rw [← hu]
  split at hp
  · rename_i a σ1 hr
    rw [hr]
    intro e' ac w' ⟨φ', k1, k2, k3, k4, k5, k6⟩
    cases e' <;> simp only [XOk] at k6
    simp only [hcs]
    exact fin a σ1 hp ac w' φ' k1 k2 k3 k5
  · rename_i a σ1 hr
    rw [hr]
    intro e' ac w' ⟨φ', k1, k2, k3, k4, k5, k6⟩
    cases e' <;> simp only [XOk] at k6
    simp only [hcs]
    exact fin a σ1 hp ac w' φ' k1 k2 k3 k5
  · cases hp

theorem wpS_region_recover {id : Nat} {ops : Array Oper} {o : Oper} {n : Nat} {cs cs' : List Go.Frame} {v : Value} {Q : Exit → Act → List Go.Frame → World → Prop} {args : Array Operand} {ats : Array TypeId} (hn : ops.size = n + 1) (h0 : ops[0]? = some o) (hg : o.guard = none)
    (hop : o.op = .call { callee := .builtin .recover, args := args, argTypes := ats }) (hr : (recoverD cs = some (v, cs')) ∨ (recoverD cs = none ∧ v = .nilIface ∧ cs' = cs))
    (h : wpOps P ops (fun e a' w' => Q e a' cs' w') (List.range' 1 n) (ac.put o.dst v) w) : (Code.region id ops false).wpS P Q ac cs w := by
  intro b k hb hro
  obtain ⟨e, a', w', hq, harr⟩ := wp_ops (Q := fun e a w => Q e a cs' w) _ _ _ h b k cs'
  have hrange : List.range ops.size = 0 :: List.range' 1 n := by rw [hn, List.range_eq_range', List.range'_succ]
  have hw : Region.wanted o (yielded ops ac.tmps) = true := by simp [Region.wanted, hg]
  have hstep := step_region (P := P) (b := b) (a := ac) (k := k) (cs := cs) (w := w) (ops := ops) (id := id)
  rw [hrange] at hstep
  have hrun : (execOp ac.eval o).run P w = .ok .recover w := by
    simp only [execOp, hop, resolve, Sem.run_bind, Sem.run_pure, Result.andThen_ok, invoke]
    rfl
  have hsg := stepG_op (P := P) (b := b) (k := k) (cs := cs) (w := w) (rest := List.range' 1 n) h0 hw
  have hfin : ∀ v, (b.at ac (.inRegion ops (0 :: List.range' 1 n) :: k)).finish v = b.at (ac.put o.dst v) (.inRegion ops (List.range' 1 n) :: k) := by
    intro v; rw [Frame.finish_at, h0]; rfl
  have hk : (b.at ac (.inRegion ops (0 :: List.range' 1 n) :: k)).kind = .deferred := hb
  have htr := tryRecover_deferred hk cs
  refine ⟨e, a', cs', w', hq, .of_steps (.head hstep (.one (step_lone_go ?_))) harr⟩
  rcases hr with hr | ⟨hr, rfl, rfl⟩
  · rw [hsg, ← hfin]
    simp only [Frame.at] at htr ⊢
    simp [stepG.apply, hrun, htr, hr]
  · rw [hsg, ← hfin]
    simp only [Frame.at] at htr ⊢
    simp [stepG.apply, hrun, htr, hr]

theorem fr_of_restrict {l : List Nat} (fr : FR φ w a ac.tmps) : FR φ w (restrict l a) ac.tmps := fr_restrict l fr

theorem dpRec_ok {f : FuncId} {fn : RFunc} (h : HoldsR P f fn) {n : Nat} {call : FuncId → List AVal → M AVal} (hc : CallOk P w0 call) : DOk P w0 f (dpRec n call fn) := by
  obtain ⟨fc, id, ops, c, o, oargs, ats, h1, h2, h3, h4, h5, h6, h7, h8, h9, h10, h11⟩ := h
  refine ⟨⟨fc, h1, h2, by simp [h3]⟩, fun args m σ m' σ' hp φ w cargs u s hv hm => ?_⟩
  refine callsD_of_wpS h1 h3 fun c0 cs hu => wpS_seq ?_
  obtain ⟨sz, hsz⟩ : ∃ sz, ops.size = sz + 1 := ⟨ops.size - 1, by have := (Array.getElem?_eq_some_iff.1 h4).1; omega⟩
  rw [hsz, Nat.add_sub_cancel] at h9
  -- what is found
  obtain ⟨cv, u', hrec, hcv, hset⟩ : ∃ cv u', ((recoverD (c0 :: cs) = some (cv, { c0 with mode := u' } :: cs)) ∨ (recoverD (c0 :: cs) = none ∧ cv = .nilIface ∧ { c0 with mode := u' } :: cs = c0 :: cs)) ∧ VR φ w m.found cv ∧ settle u' = .returning := by
    cases m with
    | none =>
      cases hu' : u <;> rw [hu'] at hm hu <;> simp only [MR] at hm
      refine ⟨.nilIface, .returning, .inr ⟨?_, rfl, by rw [← hu]⟩, .nilIface, rfl⟩
      simp [recoverD, hu]
    | some v =>
      cases hu' : u <;> rw [hu'] at hm hu <;> simp only [MR] at hm
      obtain ⟨cv, rfl, hcv⟩ := hm
      refine ⟨cv, .panicking [{ v := cv, recovered := true }], .inl ?_, hcv, rfl⟩
      simp only [recoverD, hu]
  let ac0 : Act := { tmps := cargs.toArray ++ Array.replicate (fc.ntmps - cargs.toArray.size) undef, defers := [] }
  have hnt : fc.ntmps ≤ ac0.tmps.size := by show fc.ntmps ≤ (cargs.toArray ++ Array.replicate (fc.ntmps - cargs.toArray.size) undef).size; simp; omega
  have hfr0 : FR φ w (fput (enter args) (some fn.dst) m.found) (ac0.put o.dst cv).tmps := by
    rw [h7]
    exact fr_put (dst := some fn.dst) (fr_enter hv _) hcv (fun d e => by cases e; exact Nat.lt_of_lt_of_le h8 hnt)
  have hfin : ∀ a σ1, (match resOf fn.res a σ1 with | some _ => R.ok none σ1 | none => R.bad) = .ok m' σ' → ∀ (ac : Act) w' φ', Ext φ w φ' w' → Sim w0 φ' σ1 w' → FR φ' w' a ac.tmps → DRs φ' w' [] ac.defers →
      ac.defers = [] ∧ ∃ u1, { c0 with mode := u' } :: cs = { c0 with mode := u1 } :: cs ∧ ∃ v, (results fc ac.tmps).run P w' = .ok v w' ∧ ((∃ cv, Ending.returned v = .returned cv) ∧ ∃ φ', Ext φ w φ' w' ∧ Sim w0 φ' σ' w' ∧ MR φ' w' m' (settle u1)) := by
    intro a σ1 hp ac w' φ' k1 k2 k3 k5
    split at hp
    · rename_i v hres
      cases hp
      obtain ⟨cv, q1, q2⟩ := res_ok k2 k3 h11 hres
      have hd := drs_nil k5
      exact ⟨hd, u', rfl, cv, q1, ⟨cv, rfl⟩, φ', k1, k2, by rw [hset]; trivial⟩
    · cases hp
  refine wpS_region_recover (n := sz) (cs' := { c0 with mode := u' } :: cs) hsz h4 h6 h5 hrec ?_
  unfold dpRec at hp
  refine text_ok (nt0 := fc.ntmps) hnt hc _ fn.ops φ σ w _ _ h9 s (Ext.refl φ w) hfr0 (nt := ac0.tmps.size) (ds := []) (ls := fn.ops) (put_size (ac := ac0) _ _).1 (put_size (ac := ac0) _ _).2 ?_
  cases hv2 : evOps call fn.ops (fput (enter args) (some fn.dst) m.found) σ with
  | bad => rw [hv2] at hp; cases hp
  | panic v σ1 => rw [hv2] at hp; cases hp
  | ok p σ1 =>
    obtain ⟨e, a1⟩ := p
    rw [hv2] at hp
    intro e' ac1 w' ⟨φ', k1, k2, k3, k4, k5, k6⟩
    cases e with
    | norm =>
      cases e' <;> simp only [XOk] at k6
      simp only at hp
      simp only [Exit.thenS]
      refine wpS_of_wp ?_
      refine code_ok (w0 := w0) (φ1 := φ) (w1 := w) (nt0 := fc.ntmps) (nt := ac0.tmps.size) hnt hc n c fn.rest fn.rest h10 _ φ' σ1 w' (restrict fn.live a1) ac1 [] k2 k1 (fr_restrict fn.live k3) k4 (k5 ▸ .nil) ?_
      split at hp
      · rename_i a σ2 hr
        rw [hr]
        intro e' ac w' ⟨φ', k1, k2, k3, k4, k5, k6⟩
        cases e' <;> simp only [XOk] at k6
        exact hfin a σ2 hp ac w' φ' k1 k2 k3 k5
      · rename_i a σ2 hr
        rw [hr]
        intro e' ac w' ⟨φ', k1, k2, k3, k4, k5, k6⟩
        cases e' <;> simp only [XOk] at k6
        exact hfin a σ2 hp ac w' φ' k1 k2 k3 k5
      · cases hp
    | ret => cases hp
    | exit i => cases hp
    | panic v => cases hp

end
end Go.Am

