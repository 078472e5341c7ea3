/-
  The evaluator without fuel. Conditions: none.
-/
import Derived.Test.YthgemggkogfhaaaGreatDoorA2
import Derived.Test.YthgemggkogfhaaaGreatDoorB1
namespace Go.Am
open Go Go.RowKit

/-- The one goes at least as far as the other. -/
def Le {α : Type} (r r' : R α) : Prop := r ≠ .bad → r' = r

theorem Le.refl {α : Type} (r : R α) : Le r r := fun _ => rfl
theorem Le.bad {α : Type} (r : R α) : Le .bad r := fun h => absurd rfl h
theorem Le.trans {α : Type} {a b c : R α} (h : Le a b) (k : Le b c) : Le a c := fun ha => by
  have h1 := h ha
  have h2 := k (by rw [h1]; exact ha)
  rw [h2, h1]

abbrev Call := FuncId → List AVal → M AVal

def CallLe (c c' : Call) : Prop := ∀ f args σ, Le (c f args σ) (c' f args σ)

section
variable {c c' : Call}

theorem eop_mono (h : CallLe c c') (e : EOp) (a : Frame) (σ : ASt) : Le (e.ev c a σ) (e.ev c' a σ) := by
  cases e
  case call f args => exact h _ _ _
  case callv x args =>
    simp only [EOp.ev]
    unfold acallv
    split
    · exact h _ _ _
    · exact .refl _
  all_goals exact .refl _

theorem ops_mono (h : CallLe c c') : ∀ (l : List IOper) (a : Frame) (σ : ASt), Le (evOps c l a σ) (evOps c' l a σ)
  | [], a, σ => .refl _
  | o :: l, a, σ => by
    have go : ∀ a, Le (o.go c a (evOps c l) σ) (o.go c' a (evOps c' l) σ) := by
      intro a
      unfold IOper.go
      split
      · split
        · exact ops_mono h l _ _
        · exact .refl _
      · rename_i e pend he
        cases hv : e.ev c a σ with
        | bad => exact .bad _
        | ok v σ' =>
          rw [eop_mono h e a σ (by rw [hv]; simp), hv]
          simp only
          split
          · exact ops_mono h l _ _
          · exact .refl _
        | panic v σ' =>
          rw [eop_mono h e a σ (by rw [hv]; simp), hv]
          exact .refl _
    show Le (o.ev c a (evOps c l) σ) (o.ev c' a (evOps c' l) σ)
    unfold IOper.ev
    split
    · exact go a
    · split
      · split
        · exact go _
        · exact ops_mono h l _ _
      · exact ops_mono h l _ _
      · exact .refl _

theorem then_mono {r r' : R (AExit × AAct)} {f f' : AAct → M (AExit × AAct)} (h : Le r r') (k : ∀ a σ, Le (f a σ) (f' a σ)) : Le (thenM r f) (thenM r' f') := by
  by_cases hb : r = .bad
  · subst hb; exact .bad _
  · rw [h hb]
    unfold thenM
    split
    · exact k _ _
    · exact .refl _

theorem loopN_mono {f f' : AAct → M (AExit × AAct)} (k : ∀ a σ, Le (f a σ) (f' a σ)) : ∀ {n n' : Nat}, n ≤ n' → ∀ a σ, Le (loopN f n a σ) (loopN f' n' a σ)
  | 0, _, _, a, σ => .bad _
  | n + 1, 0, h, _, _ => absurd h (by omega)
  | n + 1, n' + 1, h, a, σ => then_mono (k a σ) (loopN_mono k (by omega))

theorem opsM_mono {ls : List IOper} {live : List Nat} {d : List (AVal × List AVal)} {r r' : R (AExit × Frame)} (h : Le r r') : Le (opsM ls live d r) (opsM ls live d r') := by
  by_cases hb : r = .bad
  · subst hb; exact .bad _
  · rw [h hb]; exact .refl _

theorem blockM_mono {id : Nat} {r r' : R (AExit × AAct)} (h : Le r r') : Le (blockM id r) (blockM id r') := by
  by_cases hb : r = .bad
  · subst hb; exact .bad _
  · rw [h hb]; exact .refl _

theorem code_mono (h : CallLe c c') {n n' : Nat} (hn : n ≤ n') : ∀ (x : ICode) (a : AAct) (σ : ASt), Le (x.ev n c a σ) (x.ev n' c' a σ)
  | .skip, a, σ => .refl _
  | .ops l live, a, σ => opsM_mono (ops_mono h l a.a σ)
  | .defer x args, a, σ => .refl _
  | .seq x y, a, σ => then_mono (code_mono h hn x a σ) (code_mono h hn y)
  | .cond b x y, a, σ => by
    simp only [ICode.ev]
    split
    · split
      · exact code_mono h hn x a σ
      · exact code_mono h hn y a σ
    · exact .refl _
  | .block id x, a, σ => blockM_mono (code_mono h hn x a σ)
  | .loop live x, a, σ => loopN_mono (fun a σ => code_mono h hn x _ σ) hn a σ
  | .exit id, a, σ => .refl _
  | .ret, a, σ => .refl _

theorem body_mono {dp : DPrim} {rs : List IRes} {r r' : R (AExit × AAct)} (h : Le r r') : Le (bodyM dp rs r) (bodyM dp rs r') := by
  by_cases hb : r = .bad
  · subst hb; exact .bad _
  · rw [h hb]; exact .refl _

theorem evF_succ (E : Env) : ∀ n, CallLe (evF E n) (evF E (n + 1))
  | 0 => fun _ _ _ => .bad _
  | n + 1 => fun f args σ => by
    unfold evF
    split
    · exact .refl _
    · split
      · exact body_mono (code_mono (evF_succ E n) (by omega) _ _ _)
      · exact .refl _

theorem evF_mono (E : Env) {n m : Nat} (h : n ≤ m) : CallLe (evF E n) (evF E m) := by
  induction h with
  | refl => exact fun _ _ _ => .refl _
  | step _ ih => exact fun f args σ => (ih f args σ).trans (evF_succ E _ f args σ)

end

/-- A chain that goes ever further. -/
def Chain {α : Type} (f : Nat → R α) : Prop := ∀ n m, n ≤ m → Le (f n) (f m)

open Classical in
noncomputable def lim {α : Type} (f : Nat → R α) : R α := if h : ∃ n, f n ≠ .bad then f h.choose else .bad

theorem lim_of {α : Type} {f : Nat → R α} (h : Chain f) {n : Nat} (hn : f n ≠ .bad) : lim f = f n := by
  unfold lim
  have hx : ∃ n, f n ≠ .bad := ⟨n, hn⟩
  rw [dif_pos hx]
  rcases Nat.le_total n hx.choose with hle | hle
  · exact h _ _ hle hn
  · exact (h _ _ hle hx.choose_spec).symm

theorem lim_at {α : Type} {f : Nat → R α} (hb : lim f ≠ .bad) : ∃ n, f n = lim f := by
  unfold lim at hb ⊢
  split at hb
  · rename_i hx
    rw [dif_pos hx]
    exact ⟨_, rfl⟩
  · exact absurd rfl hb

theorem lim_const {α : Type} (r : R α) : lim (fun _ => r) = r := by
  by_cases hr : r = .bad
  · subst hr
    unfold lim
    rw [dif_neg (by simp)]
  · exact lim_of (f := fun _ => r) (fun _ _ _ => .refl _) (n := 0) hr

theorem lim_le {α : Type} {f : Nat → R α} (h : Chain f) (n : Nat) : Le (f n) (lim f) := fun hn => lim_of h hn

/-- Limits that agree where the one is known. -/
theorem lim_ext {α : Type} {f : Nat → R α} {r : R α} (h : Chain f) (h1 : ∀ n, Le (f n) r) (h2 : r ≠ .bad → ∃ n, f n = r) : lim f = r := by
  by_cases hr : r = .bad
  · by_cases hl : lim f = .bad
    · rw [hl, hr]
    · obtain ⟨n, hn⟩ := lim_at hl
      have := h1 n (by rw [hn]; exact hl)
      rw [hr] at this
      rw [← hn] at hl
      exact absurd this.symm hl
  · obtain ⟨n, hn⟩ := h2 hr
    rw [← hn]
    exact lim_of h (by rw [hn]; exact hr)

noncomputable def evL (E : Env) (f : FuncId) (args : List AVal) : M AVal := fun σ => lim fun n => evF E n f args σ

theorem evL_chain (E : Env) (f : FuncId) (args : List AVal) (σ : ASt) : Chain fun n => evF E n f args σ := fun _ _ h => evF_mono E h f args σ

noncomputable def ICode.evL (call : Call) (x : ICode) (a : AAct) : M (AExit × AAct) := fun σ => lim fun n => x.ev n call a σ

theorem code_chain (call : Call) (x : ICode) (a : AAct) (σ : ASt) : Chain fun n => x.ev n call a σ := fun _ _ h => code_mono (fun _ _ _ => .refl _) h x a σ

section
variable (call : Call)

theorem thenM_bad {r : R (AExit × AAct)} {f : AAct → M (AExit × AAct)} (h : thenM r f ≠ .bad) : r ≠ .bad := by
  rintro rfl; exact h rfl

theorem cl_skip (a : AAct) (σ : ASt) : ICode.skip.evL call a σ = .ok (.norm, a) σ := lim_const _
theorem cl_exit (id : Nat) (a : AAct) (σ : ASt) : (ICode.exit id).evL call a σ = .ok (.exit id, a) σ := lim_const _
theorem cl_ret (a : AAct) (σ : ASt) : ICode.ret.evL call a σ = .ok (.ret, a) σ := lim_const _
theorem cl_ops (l : List IOper) (live : List Nat) (a : Frame) (d : List (AVal × List AVal)) (σ : ASt) : (ICode.ops l live).evL call ⟨a, d⟩ σ = opsM l live d (evOps call l a σ) := lim_const _
theorem cl_defer (x : IOpd) (args : List IOpd) (a : Frame) (d : List (AVal × List AVal)) (σ : ASt) : (ICode.defer x args).evL call ⟨a, d⟩ σ = dfr (x.ev a) (args.map (·.ev a)) a d σ := lim_const _

/-- The rest of a code behind one that has come to its end. -/
noncomputable def thl (call : Call) (y : ICode) (r : R (AExit × AAct)) : R (AExit × AAct) := thenM r (y.evL call)
theorem thl_norm (y : ICode) (b : AAct) (σ : ASt) : thl call y (.ok (.norm, b) σ) = y.evL call b σ := rfl
theorem thl_ret (y : ICode) (b : AAct) (σ : ASt) : thl call y (.ok (.ret, b) σ) = .ok (.ret, b) σ := rfl
theorem thl_exit (y : ICode) (id : Nat) (b : AAct) (σ : ASt) : thl call y (.ok (.exit id, b) σ) = .ok (.exit id, b) σ := rfl
theorem thl_panic (y : ICode) (v : AVal) (b : AAct) (σ : ASt) : thl call y (.ok (.panic v, b) σ) = .ok (.panic v, b) σ := rfl

theorem cl_seq (x y : ICode) (b : AAct) (σ : ASt) : (ICode.seq x y).evL call b σ = thl call y (x.evL call b σ) := by
  refine lim_ext (code_chain call _ b σ) (fun n => ?_) (fun h => ?_)
  · exact then_mono (lim_le (code_chain call x b σ) n) (fun a σ => lim_le (code_chain call y a σ) n)
  · have hx := thenM_bad (r := x.evL call b σ) h
    obtain ⟨n, hn⟩ := lim_at hx
    have hn : x.ev n call b σ = x.evL call b σ := hn
    cases hr : x.evL call b σ with
    | bad => exact absurd hr hx
    | panic v σ' =>
      refine ⟨n, ?_⟩
      show thenM (x.ev n call b σ) _ = _
      rw [hn, hr]; rfl
    | ok p σ' =>
      obtain ⟨e, a⟩ := p
      cases e with
      | norm =>
        rw [hr] at h
        obtain ⟨m, hm⟩ := lim_at (f := fun n => y.ev n call a σ') h
        have hm : y.ev m call a σ' = y.evL call a σ' := hm
        refine ⟨max n m, ?_⟩
        show thenM (x.ev (max n m) call b σ) _ = _
        have h1 : x.ev (max n m) call b σ = .ok (.norm, a) σ' := by
          have := code_chain call x b σ n (max n m) (Nat.le_max_left _ _) (by simp only []; rw [hn, hr]; simp)
          simp only [] at this
          rw [this, hn, hr]
        have h2 : y.ev (max n m) call a σ' = y.evL call a σ' := by
          have := code_chain call y a σ' m (max n m) (Nat.le_max_right _ _) (by simp only []; rw [hm]; exact h)
          simp only [] at this
          rw [this, hm]
        rw [h1]
        show y.ev (max n m) call a σ' = y.evL call a σ'
        exact h2
      | _ =>
        refine ⟨n, ?_⟩
        show thenM (x.ev n call b σ) _ = _
        rw [hn, hr]; rfl

noncomputable def csl (call : Call) (σ : ASt) (x y : ICode) (b : AAct) (v : AVal) : R (AExit × AAct) := match v with
  | .bool t => if t then x.evL call b σ else y.evL call b σ
  | _ => .bad
theorem csl_true (σ : ASt) (x y : ICode) (b : AAct) : csl call σ x y b (.bool true) = x.evL call b σ := rfl
theorem csl_false (σ : ASt) (x y : ICode) (b : AAct) : csl call σ x y b (.bool false) = y.evL call b σ := rfl
theorem csl_if (σ : ASt) (x y : ICode) (b : AAct) (p : Prop) [Decidable p] : csl call σ x y b (.bool (decide p)) = if p then x.evL call b σ else y.evL call b σ := by
  by_cases h : p <;> simp [csl, h]

theorem cl_cond (c : IOpd) (x y : ICode) (a : Frame) (d : List (AVal × List AVal)) (σ : ASt) : (ICode.cond c x y).evL call ⟨a, d⟩ σ = csl call σ x y ⟨a, d⟩ (c.ev a) := by
  unfold ICode.evL csl
  simp only [ICode.ev]
  cases c.ev a with
  | bool b => cases b <;> rfl
  | _ => exact lim_const _

theorem cl_block (id : Nat) (x : ICode) (b : AAct) (σ : ASt) : (ICode.block id x).evL call b σ = blockM id (x.evL call b σ) := by
  refine lim_ext (code_chain call _ b σ) (fun n => blockM_mono (lim_le (code_chain call x b σ) n)) (fun h => ?_)
  have hx : x.evL call b σ ≠ .bad := by intro e; rw [e] at h; exact h rfl
  obtain ⟨n, hn⟩ := lim_at hx
  have hn : x.ev n call b σ = x.evL call b σ := hn
  exact ⟨n, by show blockM id (x.ev n call b σ) = _; rw [hn]⟩

/-- A loop. -/
noncomputable def lpl (call : Call) (live : List Nat) (x : ICode) (a : Frame) (d : List (AVal × List AVal)) : M (AExit × AAct) := (ICode.loop live x).evL call ⟨a, d⟩
theorem cl_loop (live : List Nat) (x : ICode) (a : Frame) (d : List (AVal × List AVal)) (σ : ASt) : (ICode.loop live x).evL call ⟨a, d⟩ σ = lpl call live x a d σ := rfl

noncomputable def lplk (call : Call) (live : List Nat) (x : ICode) (r : R (AExit × AAct)) : R (AExit × AAct) := thenM r fun b => lpl call live x b.a b.d
theorem lplk_norm (live : List Nat) (x : ICode) (a : Frame) (d : List (AVal × List AVal)) (σ : ASt) : lplk call live x (.ok (.norm, ⟨a, d⟩) σ) = lpl call live x a d σ := rfl
theorem lplk_ret (live : List Nat) (x : ICode) (b : AAct) (σ : ASt) : lplk call live x (.ok (.ret, b) σ) = .ok (.ret, b) σ := rfl
theorem lplk_exit (live : List Nat) (x : ICode) (id : Nat) (b : AAct) (σ : ASt) : lplk call live x (.ok (.exit id, b) σ) = .ok (.exit id, b) σ := rfl
theorem lplk_panic (live : List Nat) (x : ICode) (v : AVal) (b : AAct) (σ : ASt) : lplk call live x (.ok (.panic v, b) σ) = .ok (.panic v, b) σ := rfl

theorem lpl_round (live : List Nat) (x : ICode) (a : Frame) (d : List (AVal × List AVal)) (σ : ASt) : lpl call live x a d σ = lplk call live x (x.evL call ⟨restrict live a, d⟩ σ) := by
  have chain := code_chain call (ICode.loop live x)
  refine lim_ext (chain ⟨a, d⟩ σ) (fun n => ?_) (fun h => ?_)
  · cases n with
    | zero => exact .bad _
    | succ n =>
      refine then_mono (lim_le (code_chain call x ⟨restrict live a, d⟩ σ) (n + 1)) (fun b τ => ?_)
      refine Le.trans (b := (ICode.loop live x).ev (n + 1) call b τ) ?_ (lim_le (chain b τ) (n + 1))
      exact loopN_mono (fun _ _ => .refl _) (Nat.le_succ n) b τ
  · have hx := thenM_bad (r := x.evL call ⟨restrict live a, d⟩ σ) h
    obtain ⟨n, hn⟩ := lim_at hx
    have hn : x.ev n call ⟨restrict live a, d⟩ σ = x.evL call ⟨restrict live a, d⟩ σ := hn
    have step : ∀ m, x.ev (m + 1) call ⟨restrict live a, d⟩ σ = x.evL call ⟨restrict live a, d⟩ σ → (ICode.loop live x).ev (m + 1) call ⟨a, d⟩ σ = thenM (x.evL call ⟨restrict live a, d⟩ σ) (loopN (fun a => x.ev (m + 1) call ⟨restrict live a.a, a.d⟩) m) := fun m hm => by
      show loopN _ (m + 1) _ σ = _
      simp only [loopN]
      rw [hm]
    have up : ∀ m, n ≤ m → x.ev m call ⟨restrict live a, d⟩ σ = x.evL call ⟨restrict live a, d⟩ σ := fun m hm => by
      have := code_chain call x ⟨restrict live a, d⟩ σ n m hm (by simp only []; rw [hn]; exact hx)
      simp only [] at this
      rw [this, hn]
    cases hr : x.evL call ⟨restrict live a, d⟩ σ with
    | bad => exact absurd hr hx
    | panic v σ' =>
      refine ⟨n + 1, ?_⟩
      rw [step n (up _ (by omega)), hr]; rfl
    | ok p σ' =>
      obtain ⟨e, b⟩ := p
      cases e with
      | norm =>
        rw [hr] at h
        obtain ⟨m, hm⟩ := lim_at (f := fun n => (ICode.loop live x).ev n call b σ') h
        have hm : (ICode.loop live x).ev m call b σ' = lpl call live x b.a b.d σ' := hm
        refine ⟨max n m + 1, ?_⟩
        rw [step _ (up _ (by omega)), hr]
        show loopN _ (max n m) b σ' = lpl call live x b.a b.d σ'
        rw [← hm]
        refine loopN_mono (n := m) (f := fun a => x.ev m call ⟨restrict live a.a, a.d⟩) (fun a σ => ?_) (by omega) b σ' ?_
        · exact code_mono (fun _ _ _ => .refl _) (by omega) x _ σ
        · show (ICode.loop live x).ev m call b σ' ≠ .bad
          rw [hm]; exact h
      | _ =>
        refine ⟨n + 1, ?_⟩
        rw [step n (up _ (by omega)), hr]; rfl

end

/-- Continuity: what is reckoned with the limit of calls is reckoned with one of them. -/
def Lims (cs : Nat → Call) (c : Call) : Prop := (∀ n m, n ≤ m → CallLe (cs n) (cs m)) ∧ (∀ n, CallLe (cs n) c) ∧ ∀ f args σ, c f args σ ≠ .bad → ∃ n, cs n f args σ = c f args σ

section
variable {cs : Nat → Call} {c : Call}

theorem eop_cont (h : Lims cs c) (e : EOp) (a : Frame) (σ : ASt) (hb : e.ev c a σ ≠ .bad) : ∃ n, e.ev (cs n) a σ = e.ev c a σ := by
  cases e
  case call f args => exact h.2.2 _ _ _ hb
  case callv x args =>
    simp only [EOp.ev] at hb ⊢
    unfold acallv at hb ⊢
    split at hb
    · exact h.2.2 _ _ _ hb
    · exact absurd rfl hb
  all_goals exact ⟨0, rfl⟩

theorem ops_cont (h : Lims cs c) : ∀ (l : List IOper) (a : Frame) (σ : ASt), evOps c l a σ ≠ .bad → ∃ n, evOps (cs n) l a σ = evOps c l a σ
  | [], a, σ, _ => ⟨0, rfl⟩
  | o :: l, a, σ, hb => by
    have go : ∀ a, o.go c a (evOps c l) σ ≠ .bad → ∃ n, o.go (cs n) a (evOps (cs n) l) σ = o.go c a (evOps c l) σ := by
      intro a hb
      unfold IOper.go at hb ⊢
      split at hb
      · split at hb
        · exact ops_cont h l _ _ hb
        · exact absurd rfl hb
      · rename_i e pend he
        have he0 : e.ev c a σ ≠ .bad := by intro e0; rw [e0] at hb; exact hb rfl
        obtain ⟨n, hn⟩ := eop_cont h e a σ he0
        cases hv : e.ev c a σ with
        | bad => exact absurd hv he0
        | panic v σ' => exact ⟨n, by rw [hn, hv]⟩
        | ok v σ' =>
          rw [hv] at hb
          simp only at hb ⊢
          split at hb
          · rename_i hs
            obtain ⟨m, hm⟩ := ops_cont h l _ _ hb
            refine ⟨max n m, ?_⟩
            have h1 : e.ev (cs (max n m)) a σ = .ok v σ' := by
              have := eop_mono (h.1 n (max n m) (Nat.le_max_left _ _)) e a σ (by rw [hn, hv]; simp)
              rw [this, hn, hv]
            have h2 := ops_mono (h.1 m (max n m) (Nat.le_max_right _ _)) l (fput a o.dst v) σ' (by rw [hm]; exact hb)
            rw [h1]
            simp only [hs, if_true]
            rw [h2, hm]
          · exact absurd rfl hb
    have hb' : o.ev c a (evOps c l) σ ≠ .bad := hb
    show ∃ n, o.ev (cs n) a (evOps (cs n) l) σ = o.ev c a (evOps c l) σ
    unfold IOper.ev at hb' ⊢
    split at hb'
    · exact go a hb'
    · split at hb'
      · rename_i b hg
        split at hb'
        · rename_i hw
          simp only [hw, if_true] at hb' ⊢
          exact go _ hb'
        · rename_i hw
          simp only [hw, if_false] at hb' ⊢
          exact ops_cont h l _ _ hb'
      · exact ops_cont h l _ _ hb'
      · exact absurd rfl hb'

theorem then_cont {r : R (AExit × AAct)} {f : AAct → M (AExit × AAct)} {rs : Nat → R (AExit × AAct)} {fs : Nat → AAct → M (AExit × AAct)} (hr : ∃ n, rs n = r) (mr : ∀ n m, n ≤ m → Le (rs n) (rs m)) (hf : ∀ a σ, f a σ ≠ .bad → ∃ n, fs n a σ = f a σ) (mf : ∀ n m, n ≤ m → ∀ a σ, Le (fs n a σ) (fs m a σ))
    (hb : thenM r f ≠ .bad) : ∃ n, thenM (rs n) (fs n) = thenM r f := by
  obtain ⟨n, hn⟩ := hr
  have hr0 := thenM_bad hb
  cases r with
  | bad => exact absurd rfl hr0
  | panic v σ => exact ⟨n, by rw [hn]; rfl⟩
  | ok p σ =>
    obtain ⟨e, a⟩ := p
    cases e with
    | norm =>
      obtain ⟨m, hm⟩ := hf a σ hb
      refine ⟨max n m, ?_⟩
      have h1 : rs (max n m) = .ok (.norm, a) σ := by rw [mr n (max n m) (Nat.le_max_left _ _) (by rw [hn]; simp), hn]
      have h2 := mf m (max n m) (Nat.le_max_right _ _) a σ (by rw [hm]; exact hb)
      rw [h1]
      show fs (max n m) a σ = f a σ
      rw [h2, hm]
    | _ => exact ⟨n, by rw [hn]; rfl⟩

theorem code_cont (h : Lims cs c) (k : Nat) : ∀ (x : ICode) (a : AAct) (σ : ASt), x.ev k c a σ ≠ .bad → ∃ n, x.ev k (cs n) a σ = x.ev k c a σ
  | .skip, a, σ, _ => ⟨0, rfl⟩
  | .ops l live, a, σ, hb => by
    have h0 : evOps c l a.a σ ≠ .bad := by
      intro e
      simp only [ICode.ev] at hb
      rw [e] at hb
      exact hb rfl
    obtain ⟨n, hn⟩ := ops_cont h l a.a σ h0
    exact ⟨n, by simp only [ICode.ev]; rw [hn]⟩
  | .defer x args, a, σ, _ => ⟨0, rfl⟩
  | .seq x y, a, σ, hb =>
    then_cont (f := y.ev k c) (fs := fun n => y.ev k (cs n)) (code_cont h k x a σ (thenM_bad (f := y.ev k c) hb)) (fun n m hm => code_mono (h.1 n m hm) (Nat.le_refl _) x a σ) (fun a σ => code_cont h k y a σ) (fun n m hm a σ => code_mono (h.1 n m hm) (Nat.le_refl _) y a σ) hb
  | .cond b x y, a, σ, hb => by
    simp only [ICode.ev] at hb ⊢
    split at hb
    · split at hb
      · rename_i b' hb' ht
        simp only [ht, if_true]
        exact code_cont h k x a σ hb
      · rename_i b' hb' ht
        simp only [ht]
        exact code_cont h k y a σ hb
    · exact absurd rfl hb
  | .block id x, a, σ, hb => by
    have h0 : x.ev k c a σ ≠ .bad := by
      intro e
      simp only [ICode.ev] at hb
      rw [e] at hb
      exact hb rfl
    obtain ⟨n, hn⟩ := code_cont h k x a σ h0
    exact ⟨n, by simp only [ICode.ev]; rw [hn]⟩
  | .loop live x, a, σ, hb => by
    have key : ∀ (j : Nat) (a : AAct) (σ : ASt), loopN (fun a => x.ev k c ⟨restrict live a.a, a.d⟩) j a σ ≠ .bad → ∃ n, loopN (fun a => x.ev k (cs n) ⟨restrict live a.a, a.d⟩) j a σ = loopN (fun a => x.ev k c ⟨restrict live a.a, a.d⟩) j a σ := by
      intro j
      induction j with
      | zero => exact fun a σ hb => absurd rfl hb
      | succ j ih =>
        intro a σ hb
        simp only [loopN] at hb ⊢
        exact then_cont (f := loopN (fun a => x.ev k c ⟨restrict live a.a, a.d⟩) j) (fs := fun n => loopN (fun a => x.ev k (cs n) ⟨restrict live a.a, a.d⟩) j) (code_cont h k x _ σ (thenM_bad hb)) (fun n m hm => code_mono (h.1 n m hm) (Nat.le_refl _) x _ σ)
          ih (fun n m hm a σ => loopN_mono (fun a σ => code_mono (h.1 n m hm) (Nat.le_refl _) x _ σ) (Nat.le_refl _) a σ) hb
    exact key k a σ hb
  | .exit id, a, σ, _ => ⟨0, rfl⟩
  | .ret, a, σ, _ => ⟨0, rfl⟩

end

theorem evL_lims (E : Env) : Lims (evF E) (evL E) :=
  ⟨fun _ _ h => evF_mono E h, fun n f args σ => lim_le (evL_chain E f args σ) n, fun _ _ _ h => lim_at h⟩

/-- A call of a function by its code. -/
theorem evL_fn {E : Env} {f : FuncId} {fn : IFunc} (hp : E.prim f = none) (hf : E.fns f = some fn) (args : List AVal) (σ : ASt) : evL E f args σ = bodyM E.dp fn.res (fn.body.evL (evL E) ⟨enter args, []⟩ σ) := by
  have hs : ∀ n, evF E (n + 1) f args σ = bodyM E.dp fn.res (fn.body.ev n (evF E n) ⟨enter args, []⟩ σ) := fun n => by
    conv => lhs; unfold evF
    simp only [hp, hf]
  have bad : ∀ r, bodyM E.dp fn.res r ≠ .bad → r ≠ .bad := fun r h e => by rw [e] at h; exact h rfl
  refine lim_ext (evL_chain E f args σ) (fun n => ?_) (fun h => ?_)
  · cases n with
    | zero => exact .bad _
    | succ n =>
      rw [hs]
      exact body_mono ((code_mono ((evL_lims E).2.1 n) (Nat.le_refl _) _ _ _).trans (lim_le (code_chain (evL E) fn.body _ σ) n))
  · have h0 := bad _ h
    obtain ⟨k, hk⟩ := lim_at h0
    have hk : fn.body.ev k (evL E) ⟨enter args, []⟩ σ = fn.body.evL (evL E) ⟨enter args, []⟩ σ := hk
    obtain ⟨n, hn⟩ := code_cont (evL_lims E) k fn.body ⟨enter args, []⟩ σ (by rw [hk]; exact h0)
    refine ⟨max k n + 1, ?_⟩
    rw [hs]
    have := code_mono (evF_mono E (Nat.le_max_right k n)) (Nat.le_max_left k n) fn.body ⟨enter args, []⟩ σ (by rw [hn, hk]; exact h0)
    rw [this, hn, hk]

theorem evL_prim {E : Env} {f : FuncId} {p : List AVal → M AVal} (hp : E.prim f = some p) (args : List AVal) (σ : ASt) : evL E f args σ = p args σ := by
  refine lim_ext (evL_chain E f args σ) (fun n => ?_) (fun _ => ⟨1, ?_⟩)
  · cases n with
    | zero => exact .bad _
    | succ n => unfold evF; simp only [hp]; exact .refl _
  · unfold evF; simp only [hp]

/-- What is reckoned is what the model's calls do. -/
theorem evL_ok {P : Program} {w0 : World} {E : Env} (h : EnvOk P w0 E) : CallOk P w0 (evL E) := by
  refine ⟨h.fmt, fun f args σ hb => ?_⟩
  obtain ⟨n, hn⟩ := lim_at hb
  have hn : evF E n f args σ = evL E f args σ := hn
  have := (evF_ok h n).2 f args σ (by rw [hn]; exact hb)
  rw [hn] at this
  exact this

end Go.Am

