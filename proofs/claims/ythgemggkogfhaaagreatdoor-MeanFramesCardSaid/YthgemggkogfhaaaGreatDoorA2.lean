/-
  The abstract layer: rules of reckoning, keys, the translation of code. Conditions: none.
-/
import Derived.Test.YthgemggkogfhaaaGreatDoorA1
namespace Go.Am
open Go Go.RowKit

section
variable (call : FuncId → List AVal → M AVal) (n : Nat) (l : List IOper) (a : Frame) (d : Option Nat) (σ : ASt)

noncomputable def qst (o : Option AVal) : R (AExit × Frame) := match o with | some v => evOps call l (fput a d v) σ | none => .bad
noncomputable def est (r : R AVal) (pend : List (Nat × QOp)) : R (AExit × Frame) := match r with
  | .ok v σ' => if stands pend a σ' then evOps call l (fput a d v) σ' else .bad
  | .panic v σ' => .ok (.panic v, a) σ'
  | .bad => .bad
noncomputable def gst (g : AVal) (act : Act1) (t : Nat) (want : Bool) : R (AExit × Frame) := match g with
  | .bool b => if b = want then evOps call (⟨d, act, none⟩ :: l) ((t, .bool b) :: a) σ else evOps call l (fput ((t, .bool b) :: a) d (.tuple [])) σ
  | .tuple [] => evOps call l (fput a d (.tuple [])) σ
  | _ => .bad

@[go_sem] theorem evOps_nil : evOps call [] a σ = .ok (.norm, a) σ := (rfl)
@[go_sem] theorem evOps_q (op : QOp) : evOps call (⟨d, .q op, none⟩ :: l) a σ = qst call l a d σ (op.ev a σ) := (rfl)
@[go_sem] theorem evOps_e (op : EOp) (pend : List (Nat × QOp)) : evOps call (⟨d, .e op pend, none⟩ :: l) a σ = est call l a d (op.ev call a σ) pend := (rfl)
@[go_sem] theorem evOps_g (act : Act1) (t : Nat) (want : Bool) : evOps call (⟨d, act, some (t, want)⟩ :: l) a σ = gst call l a d σ (fget a t) act t want := (rfl)
@[go_sem] theorem qst_some (v : AVal) : qst call l a d σ (some v) = evOps call l (fput a d v) σ := (rfl)
@[go_sem] theorem est_ok (v : AVal) (σ' : ASt) : est call l a d (.ok v σ') [] = evOps call l (fput a d v) σ' := by simp [est, stands]
theorem est_ok_pend (v : AVal) (σ' : ASt) (p : Nat × QOp) (ps : List (Nat × QOp)) (h : p.2.ev a σ' = some (fget a p.1)) : est call l a d (.ok v σ') (p :: ps) = est call l a d (.ok v σ') ps := by
  unfold est stands; simp only [List.all_cons, h, decide_true, Bool.true_and]
@[go_sem] theorem est_panic (v : AVal) (σ' : ASt) (ps : List (Nat × QOp)) : est call l a d (.panic v σ') ps = .ok (.panic v, a) σ' := (rfl)
@[go_sem] theorem gst_tt (act : Act1) (t : Nat) : gst call l a d σ (.bool true) act t true = evOps call (⟨d, act, none⟩ :: l) ((t, .bool true) :: a) σ := (rfl)
@[go_sem] theorem gst_ff (act : Act1) (t : Nat) : gst call l a d σ (.bool false) act t false = evOps call (⟨d, act, none⟩ :: l) ((t, .bool false) :: a) σ := (rfl)
@[go_sem] theorem gst_tf (act : Act1) (t : Nat) : gst call l a d σ (.bool true) act t false = evOps call l (fput ((t, .bool true) :: a) d (.tuple [])) σ := (rfl)
@[go_sem] theorem gst_ft (act : Act1) (t : Nat) : gst call l a d σ (.bool false) act t true = evOps call l (fput ((t, .bool false) :: a) d (.tuple [])) σ := (rfl)
@[go_sem] theorem gst_no (act : Act1) (t : Nat) (want : Bool) : gst call l a d σ (.tuple []) act t want = evOps call l (fput a d (.tuple [])) σ := (rfl)
@[go_sem] theorem fput_some (t : Nat) (v : AVal) : fput a (some t) v = (t, v) :: a := (rfl)
@[go_sem] theorem fput_none (v : AVal) : fput a none v = a := (rfl)
@[go_sem] theorem fget_cons (i t : Nat) (v : AVal) : fget ((i, v) :: a) t = if i = t then v else fget a t := (rfl)
@[go_sem] theorem fget_nil (t : Nat) : fget [] t = .undef := (rfl)
@[go_sem] theorem restrict_cons (i : Nat) (live : List Nat) : restrict (i :: live) a = (i, fget a i) :: restrict live a := (rfl)
@[go_sem] theorem restrict_nil : restrict [] a = [] := (rfl)

variable (ds : List (AVal × List AVal)) (x y : ICode) (c : IOpd) (e : AExit) (b : AAct) (id : Nat) (live : List Nat) (ls : List IOper)
noncomputable def cst (v : AVal) : R (AExit × AAct) := match v with
  | .bool t => if t then x.ev n call b σ else y.ev n call b σ
  | _ => .bad
@[go_sem] theorem ev_skip : ICode.skip.ev n call b σ = .ok (.norm, b) σ := (rfl)
@[go_sem] theorem ev_ops : (ICode.ops l live).ev n call ⟨a, ds⟩ σ = opsM l live ds (evOps call l a σ) := (rfl)
@[go_sem] theorem opsM_norm : opsM ls live ds (.ok (.norm, a) σ) = .ok (.norm, ⟨restrict live a, ds⟩) σ := (rfl)
@[go_sem] theorem opsM_panic (v : AVal) : opsM ls live ds (.ok (.panic v, a) σ) = .ok (.panic v, ⟨unq ls (.panic v) a, ds⟩) σ := (rfl)
noncomputable def dfr (v : AVal) (args : List AVal) (a : Frame) (ds : List (AVal × List AVal)) (σ : ASt) : R (AExit × AAct) := match v with
  | .func fn first cap => .ok (.norm, ⟨a, (.func fn first cap, args) :: ds⟩) σ
  | _ => .bad
@[go_sem] theorem ev_defer (args : List IOpd) : (ICode.defer c args).ev n call ⟨a, ds⟩ σ = dfr (c.ev a) (args.map (·.ev a)) a ds σ := (rfl)
@[go_sem] theorem dfr_func (fn : Fn) (first cap args : List AVal) : dfr (.func fn first cap) args a ds σ = .ok (.norm, ⟨a, (.func fn first cap, args) :: ds⟩) σ := (rfl)
noncomputable def thn (r : R (AExit × AAct)) : R (AExit × AAct) := thenM r (y.ev n call)
@[go_sem] theorem ev_seq : (ICode.seq x y).ev n call b σ = thn call n y (x.ev n call b σ) := (rfl)
@[go_sem] theorem thn_norm : thn call n y (.ok (.norm, b) σ) = y.ev n call b σ := (rfl)
@[go_sem] theorem thn_ret : thn call n y (.ok (.ret, b) σ) = .ok (.ret, b) σ := (rfl)
@[go_sem] theorem thn_exit : thn call n y (.ok (.exit id, b) σ) = .ok (.exit id, b) σ := (rfl)
@[go_sem] theorem thn_panic (v : AVal) : thn call n y (.ok (.panic v, b) σ) = .ok (.panic v, b) σ := (rfl)
@[go_sem] theorem ev_cond : (ICode.cond c x y).ev n call ⟨a, ds⟩ σ = cst call n σ x y ⟨a, ds⟩ (c.ev a) := (rfl)
@[go_sem] theorem cst_true : cst call n σ x y b (.bool true) = x.ev n call b σ := (rfl)
@[go_sem] theorem cst_false : cst call n σ x y b (.bool false) = y.ev n call b σ := (rfl)
@[go_sem] theorem ev_block : (ICode.block id x).ev n call b σ = blockM id (x.ev n call b σ) := (rfl)
@[go_sem] theorem blockM_norm : blockM id (.ok (.norm, b) σ) = .ok (.norm, b) σ := (rfl)
@[go_sem] theorem blockM_ret : blockM id (.ok (.ret, b) σ) = .ok (.ret, b) σ := (rfl)
@[go_sem] theorem blockM_panic (v : AVal) : blockM id (.ok (.panic v, b) σ) = .ok (.panic v, b) σ := (rfl)
@[go_sem] theorem blockM_exit (i : Nat) : blockM id (.ok (.exit i, b) σ) = if i = id then .ok (.norm, b) σ else .ok (.exit i, b) σ := (rfl)
@[go_sem] theorem ev_exit : (ICode.exit id).ev n call b σ = .ok (.exit id, b) σ := (rfl)
@[go_sem] theorem ev_ret : ICode.ret.ev n call b σ = .ok (.ret, b) σ := (rfl)

/-- Rounds of a loop: at most k. -/
noncomputable def lp (live : List Nat) (x : ICode) (n : Nat) (call : FuncId → List AVal → M AVal) (ds : List (AVal × List AVal)) (k : Nat) (a : Frame) : M (AExit × AAct) :=
  loopN (fun a => x.ev n call ⟨restrict live a.a, a.d⟩) k ⟨a, ds⟩
@[go_sem] theorem ev_loop : (ICode.loop live x).ev n call ⟨a, ds⟩ σ = lp live x n call ds n a σ := (rfl)
noncomputable def lpk (live : List Nat) (x : ICode) (n : Nat) (call : FuncId → List AVal → M AVal) (k : Nat) (r : R (AExit × AAct)) : R (AExit × AAct) :=
  thenM r (loopN (fun a => x.ev n call ⟨restrict live a.a, a.d⟩) k)
theorem lp_succ (k : Nat) : lp live x n call ds (k + 1) a σ = lpk live x n call k (x.ev n call ⟨restrict live a, ds⟩ σ) := (rfl)
@[go_sem] theorem lpk_norm (k : Nat) : lpk live x n call k (.ok (.norm, ⟨a, ds⟩) σ) = lp live x n call ds k a σ := (rfl)
@[go_sem] theorem lpk_ret (k : Nat) : lpk live x n call k (.ok (.ret, b) σ) = .ok (.ret, b) σ := (rfl)
@[go_sem] theorem lpk_exit (k : Nat) : lpk live x n call k (.ok (.exit id, b) σ) = .ok (.exit id, b) σ := (rfl)
@[go_sem] theorem lpk_panic (k : Nat) (v : AVal) : lpk live x n call k (.ok (.panic v, b) σ) = .ok (.panic v, b) σ := (rfl)
end

section
variable (dp : DPrim) (rs : List IRes) (a : Frame) (σ : ASt) (ds : List (AVal × List AVal)) (m : Mode) (v : AVal)
noncomputable def lv (r : R Mode) (rs : List IRes) (a : Frame) : R AVal := r.bind fun m => leave rs a m
@[go_sem] theorem bodyM_norm : bodyM dp rs (.ok (.norm, ⟨a, ds⟩) σ) = lv (runD dp ds none σ) rs a := (rfl)
@[go_sem] theorem bodyM_ret : bodyM dp rs (.ok (.ret, ⟨a, ds⟩) σ) = lv (runD dp ds none σ) rs a := (rfl)
@[go_sem] theorem bodyM_panic : bodyM dp rs (.ok (.panic v, ⟨a, ds⟩) σ) = lv (runD dp ds (some v) σ) rs a := (rfl)
@[go_sem] theorem runD_nil : runD dp [] m σ = .ok m σ := (rfl)
@[go_sem] theorem lv_none : lv (.ok none σ) rs a = R.ofOpt (resOf rs a σ) σ := (rfl)
@[go_sem] theorem lv_some : lv (.ok (some v) σ) rs a = .panic v σ := (rfl)
@[go_sem] theorem resOf_slot (t : Nat) : resOf [.slot t] a σ = some (fget a t) := (rfl)
@[go_sem] theorem resOf_cell (t : Nat) (n : Option Nat) : resOf [.cell t n] a σ = aload n (fget a t) σ := (rfl)
@[go_sem] theorem resOf_none : resOf [] a σ = some (.tuple []) := (rfl)
end

section
variable (a : Frame) (σ : ASt) (x y c i m k p : IOpd)
@[go_sem] theorem ev_t (t : Nat) : (IOpd.t t).ev a = fget a t := (rfl)
@[go_sem] theorem ev_v (v : AVal) : (IOpd.v v).ev a = v := (rfl)
@[go_sem] theorem ev_f (f : FuncId) : (IOpd.f f).ev a = .func (.func f) [] [] := (rfl)
@[go_sem] theorem q_mov : (QOp.mov x).ev a σ = some (x.ev a) := (rfl)
@[go_sem] theorem q_same : (QOp.same x).ev a σ = asame (x.ev a) := (rfl)
@[go_sem] theorem asame_str (s : List UInt8) : asame (.str s) = some (.str s) := (rfl)
@[go_sem] theorem q_bstr : (QOp.bstr x).ev a σ = abstr (x.ev a) := (rfl)
@[go_sem] theorem q_maxi : (QOp.maxi x y).ev a σ = amaxi (x.ev a) (y.ev a) := (rfl)
@[go_sem] theorem q_sdata : (QOp.sdata x).ev a σ = asdata (x.ev a) := (rfl)
@[go_sem] theorem q_pick : (QOp.pick c x y).ev a σ = pck (c.ev a) (x.ev a) (y.ev a) := (rfl)
@[go_sem] theorem pck_bool (b : Bool) (x y : AVal) : pck (.bool b) x y = some (if b then x else y) := (rfl)
@[go_sem] theorem q_load (n : Option Nat) : (QOp.load n p).ev a σ = aload n (p.ev a) σ := (rfl)
def aloadc (n : Option Nat) (o : Option AObj) (off : Nat) : Option AVal := match o with | some (.cells _ cs) => cut n cs off | _ => none
@[go_sem] theorem aload_ptr (n : Option Nat) (g off : Nat) : aload n (.ptr g off) σ = aloadc n σ[g]? off := (rfl)
@[go_sem] theorem aloadc_some (n : Option Nat) (t : TypeId) (cs : List AVal) (off : Nat) : aloadc n (some (.cells t cs)) off = cut n cs off := (rfl)
@[go_sem] theorem aload_iptr (n : Option Nat) (v : AVal) (off : Nat) : aload n (.iptr v off) σ = cut n v.cells off := (rfl)
@[go_sem] theorem cut_none (cs : List AVal) (off : Nat) : cut none cs off = cs[off]? := (rfl)
@[go_sem] theorem cut_some (n : Nat) (cs : List AVal) (off : Nat) : cut (some n) cs off = if off + n ≤ cs.length then some (.agg ((cs.drop off).take n)) else none := (rfl)
@[go_sem] theorem q_nilc : (QOp.nilc x).ev a σ = anilc (x.ev a) := (rfl)
@[go_sem] theorem anilc_ptr (g o : Nat) : anilc (.ptr g o) = some (.ptr g o) := (rfl)
@[go_sem] theorem anilc_iptr (v : AVal) (o : Nat) : anilc (.iptr v o) = some (.iptr v o) := (rfl)
@[go_sem] theorem q_bin (op : BinOp) : (QOp.bin op x y).ev a σ = abin op (x.ev a) (y.ev a) := (rfl)
@[go_sem] theorem q_eq (c : EqC) (neg : Bool) : (QOp.eq c neg x y).ev a σ = aeqn c neg (x.ev a) (y.ev a) := (rfl)
@[go_sem] theorem q_un (op : UnOp) : (QOp.un op x).ev a σ = aun op (x.ev a) := (rfl)
@[go_sem] theorem q_conv (k : IntKind) : (QOp.conv k x).ev a σ = aconv k (x.ev a) := (rfl)
@[go_sem] theorem aconv_int (k j : IntKind) (n : Int) : aconv k (.int j n) = some (.int k (k.wrap n)) := (rfl)
@[go_sem] theorem q_build (zero : List AVal) (parts : List (Nat × Nat × IOpd)) : (QOp.build zero parts).ev a σ = (lay zero (parts.map fun (o, n, x) => (o, n, x.ev a))).map .agg := (rfl)
@[go_sem] theorem q_iface (t : TypeId) : (QOp.iface t x).ev a σ = some (.iface t (x.ev a)) := (rfl)
@[go_sem] theorem q_func (fn : Fn) (first cap : List IOpd) : (QOp.func fn first cap).ev a σ = some (.func fn (first.map (·.ev a)) (cap.map (·.ev a))) := (rfl)
@[go_sem] theorem q_slStr (lo hi : Option IOpd) : (QOp.slStr x lo hi).ev a σ = aslStr (x.ev a) (lo.map (·.ev a)) (hi.map (·.ev a)) := (rfl)
@[go_sem] theorem q_slList (es : Nat) (lo hi : Option IOpd) : (QOp.slList es x lo hi).ev a σ = aslList es (x.ev a) (lo.map (·.ev a)) (hi.map (·.ev a)) := (rfl)
@[go_sem] theorem q_slArr (es n : Nat) : (QOp.slArr es n x none none).ev a σ = aslArr es n (x.ev a) σ := (rfl)
@[go_sem] theorem q_addr (off : Nat) : (QOp.addr off x).ev a σ = aaddr off (x.ev a) := (rfl)
@[go_sem] theorem aaddr_ptr (off g o : Nat) : aaddr off (.ptr g o) = some (.ptr g (o + off)) := (rfl)
@[go_sem] theorem aaddr_iptr (off : Nat) (v : AVal) (o : Nat) : aaddr off (.iptr v o) = some (.iptr v (o + off)) := (rfl)
@[go_sem] theorem q_field (n : Option Nat) (off : Nat) : (QOp.field n off x).ev a σ = afield n off (x.ev a) := (rfl)
@[go_sem] theorem afield_agg (n : Option Nat) (off : Nat) (cs : List AVal) : afield n off (.agg cs) = cut n cs off := (rfl)
@[go_sem] theorem q_ixArr (es n : Nat) : (QOp.ixArr es n x i).ev a σ = aixArr es n (x.ev a) (i.ev a) := (rfl)
@[go_sem] theorem q_ixSl (es : Nat) : (QOp.ixSl es x i).ev a σ = aixSl es (x.ev a) (i.ev a) := (rfl)
@[go_sem] theorem q_ixVal (es : Option Nat) (n : Nat) : (QOp.ixVal es n x i).ev a σ = aixVal es n (x.ev a) (i.ev a) := (rfl)
@[go_sem] theorem q_ixStr : (QOp.ixStr x i).ev a σ = aixStr (x.ev a) (i.ev a) := (rfl)
@[go_sem] theorem q_lookup (c : KC) (zero : AVal) (ok : Bool) : (QOp.lookup c zero ok m k).ev a σ = alookup c zero ok (m.ev a) (k.ev a) σ := (rfl)
@[go_sem] theorem q_assert (t : TypeId) (zero : AVal) : (QOp.assert t zero x).ev a σ = aassert t zero (x.ev a) := (rfl)
@[go_sem] theorem q_extr (i : Nat) : (QOp.extr i x).ev a σ = aextr i (x.ev a) := (rfl)
@[go_sem] theorem aextr_tuple (i : Nat) (vs : List AVal) : aextr i (.tuple vs) = vs[i]? := (rfl)
@[go_sem] theorem q_len (c : LC) : (QOp.len c x).ev a σ = alen c (x.ev a) σ := (rfl)
@[go_sem] theorem alen_str (s : List UInt8) : alen .str (.str s) σ = some (.int .i64 s.length) := (rfl)
@[go_sem] theorem alen_nil : alen .slice .nilslice σ = some (.int .i64 0) := (rfl)
@[go_sem] theorem alen_list (t : Option Nat) (es : Nat) (l : List AVal) : alen .slice (.list t es l) σ = some (.int .i64 l.length) := (rfl)
@[go_sem] theorem alen_mslice (g es off n : Nat) : alen .slice (.mslice g es off n) σ = some (.int .i64 n) := (rfl)
end

section
variable (call : FuncId → List AVal → M AVal) (a : Frame) (σ : ASt) (x p s : IOpd)
@[go_sem] theorem e_set : (EOp.set x).ev call a σ = .ok (x.ev a) σ := (rfl)
@[go_sem] theorem e_alloc (t : TypeId) (zero : List AVal) : (EOp.alloc t zero).ev call a σ = .ok (.ptr σ.length 0) (σ ++ [.cells t zero]) := (rfl)
@[go_sem] theorem e_box (t : TypeId) : (EOp.box t x).ev call a σ = abox t (x.ev a) σ := (rfl)
@[go_sem] theorem abox_val (t : TypeId) (v : AVal) (h : v.isVal = true) : abox t v σ = .ok (.ptr σ.length 0) (σ ++ [.cells t v.cells]) := if_pos h
@[go_sem] theorem e_store (n : Nat) : (EOp.store n p x).ev call a σ = astore n (p.ev a) (x.ev a) σ := (rfl)
@[go_sem] theorem astore_ptr (n g off : Nat) (v : AVal) : astore n (.ptr g off) v σ = if v.isVal = true ∧ v.cells.length = n then put σ g off v.cells else .bad := (rfl)
def putc (o : Option AObj) (σ : ASt) (g off : Nat) (vs : List AVal) : R AVal := match o with
  | some (.cells t cs) => if off + vs.length ≤ cs.length then .ok .undef (σ.set g (.cells t (cs.take off ++ vs ++ cs.drop (off + vs.length)))) else .bad
  | _ => .bad
theorem put_eq (g off : Nat) (vs : List AVal) : put σ g off vs = putc σ[g]? σ g off vs := (rfl)
@[go_sem] theorem putc_some (t : TypeId) (cs : List AVal) (g off : Nat) (vs : List AVal) : putc (some (.cells t cs)) σ g off vs = if off + vs.length ≤ cs.length then .ok .undef (σ.set g (.cells t (cs.take off ++ vs ++ cs.drop (off + vs.length)))) else .bad := (rfl)
@[go_sem] theorem e_call (f : FuncId) (args : List IOpd) : (EOp.call f args).ev call a σ = call f (args.map (·.ev a)) σ := (rfl)
@[go_sem] theorem e_callv (args : List IOpd) : (EOp.callv x args).ev call a σ = acallv call (x.ev a) (args.map (·.ev a)) σ := (rfl)
@[go_sem] theorem acallv_func (f : FuncId) (first cap args : List AVal) : acallv call (.func (.func f) first cap) args σ = call f (first ++ args ++ cap) σ := (rfl)
@[go_sem] theorem e_panic : (EOp.panic x).ev call a σ = apanic (x.ev a) σ := (rfl)
@[go_sem] theorem apanic_iface (t : TypeId) (v : AVal) : apanic (.iface t v) σ = .panic (.iface t v) σ := (rfl)
@[go_sem] theorem e_append (el : TypeId) (es b : Nat) : (EOp.append el es b s x).ev call a σ = aappend el es b (s.ev a) (x.ev a) σ := (rfl)
@[go_sem] theorem e_bslice (el : TypeId) (es n : Nat) (zero : List AVal) (parts : List (Nat × Nat × IOpd)) : (EOp.bslice el es n zero parts).ev call a σ = abslice el es n (lay (zeros zero n) (parts.map fun (o, n, x) => (o, n, x.ev a))) σ := (rfl)
@[go_sem] theorem abslice_some (el : TypeId) (es n : Nat) (cs : List AVal) : abslice el es n (some cs) σ = .ok (.list (some σ.length) es (chunks es n cs)) (σ ++ [.tok n el]) := (rfl)
@[go_sem] theorem e_mkmap : EOp.mkmap.ev call a σ = .ok (.map σ.length) (σ ++ [.map []]) := (rfl)
@[go_sem] theorem e_mkslice (el : TypeId) (es : Nat) (zero : List AVal) : (EOp.mkslice el es zero x).ev call a σ = amkslice el es zero (x.ev a) σ := (rfl)
@[go_sem] theorem e_mapupd (c : KC) (m k : IOpd) : (EOp.mapupd c m k x).ev call a σ = amapupd c (m.ev a) (k.ev a) (x.ev a) σ := (rfl)
@[go_sem] theorem e_copy (es : Nat) : (EOp.copy es s x).ev call a σ = acopy es (s.ev a) (x.ev a) σ := (rfl)
@[go_sem] theorem e_ustr (el : TypeId) (n : IOpd) : (EOp.ustr el p n).ev call a σ = austr el (p.ev a) (n.ev a) σ := (rfl)
end

section
@[go_sem] theorem isVal_bool (b : Bool) : AVal.isVal (.bool b : AVal) = true := (rfl)
@[go_sem] theorem cells_bool (b : Bool) : AVal.cells (.bool b : AVal) = [(.bool b : AVal)] := (rfl)
@[go_sem] theorem isVal_int (k : IntKind) (n : Int) : AVal.isVal (.int k n : AVal) = true := (rfl)
@[go_sem] theorem cells_int (k : IntKind) (n : Int) : AVal.cells (.int k n : AVal) = [(.int k n : AVal)] := (rfl)
@[go_sem] theorem isVal_str (s : List UInt8) : AVal.isVal (.str s : AVal) = true := (rfl)
@[go_sem] theorem cells_str (s : List UInt8) : AVal.cells (.str s : AVal) = [(.str s : AVal)] := (rfl)
@[go_sem] theorem isVal_nilptr  : AVal.isVal (.nilptr : AVal) = true := (rfl)
@[go_sem] theorem cells_nilptr  : AVal.cells (.nilptr : AVal) = [(.nilptr : AVal)] := (rfl)
@[go_sem] theorem isVal_ptr (g o : Nat) : AVal.isVal (.ptr g o : AVal) = true := (rfl)
@[go_sem] theorem cells_ptr (g o : Nat) : AVal.cells (.ptr g o : AVal) = [(.ptr g o : AVal)] := (rfl)
@[go_sem] theorem isVal_iptr (v : AVal) (o : Nat) : AVal.isVal (.iptr v o : AVal) = true := (rfl)
@[go_sem] theorem cells_iptr (v : AVal) (o : Nat) : AVal.cells (.iptr v o : AVal) = [(.iptr v o : AVal)] := (rfl)
@[go_sem] theorem isVal_nilslice  : AVal.isVal (.nilslice : AVal) = true := (rfl)
@[go_sem] theorem cells_nilslice  : AVal.cells (.nilslice : AVal) = [(.nilslice : AVal)] := (rfl)
@[go_sem] theorem isVal_list (t : Option Nat) (es : Nat) (l : List AVal) : AVal.isVal (.list t es l : AVal) = true := (rfl)
@[go_sem] theorem cells_list (t : Option Nat) (es : Nat) (l : List AVal) : AVal.cells (.list t es l : AVal) = [(.list t es l : AVal)] := (rfl)
@[go_sem] theorem isVal_mslice (g e o n : Nat) : AVal.isVal (.mslice g e o n : AVal) = true := (rfl)
@[go_sem] theorem cells_mslice (g e o n : Nat) : AVal.cells (.mslice g e o n : AVal) = [(.mslice g e o n : AVal)] := (rfl)
@[go_sem] theorem isVal_nilmap  : AVal.isVal (.nilmap : AVal) = true := (rfl)
@[go_sem] theorem cells_nilmap  : AVal.cells (.nilmap : AVal) = [(.nilmap : AVal)] := (rfl)
@[go_sem] theorem isVal_map (g : Nat) : AVal.isVal (.map g : AVal) = true := (rfl)
@[go_sem] theorem cells_map (g : Nat) : AVal.cells (.map g : AVal) = [(.map g : AVal)] := (rfl)
@[go_sem] theorem isVal_func (f : Fn) (x y : List AVal) : AVal.isVal (.func f x y : AVal) = true := (rfl)
@[go_sem] theorem cells_func (f : Fn) (x y : List AVal) : AVal.cells (.func f x y : AVal) = [(.func f x y : AVal)] := (rfl)
@[go_sem] theorem isVal_nilfunc  : AVal.isVal (.nilfunc : AVal) = true := (rfl)
@[go_sem] theorem cells_nilfunc  : AVal.cells (.nilfunc : AVal) = [(.nilfunc : AVal)] := (rfl)
@[go_sem] theorem isVal_iface (t : TypeId) (v : AVal) : AVal.isVal (.iface t v : AVal) = true := (rfl)
@[go_sem] theorem cells_iface (t : TypeId) (v : AVal) : AVal.cells (.iface t v : AVal) = [(.iface t v : AVal)] := (rfl)
@[go_sem] theorem isVal_nilIface  : AVal.isVal (.nilIface : AVal) = true := (rfl)
@[go_sem] theorem cells_nilIface  : AVal.cells (.nilIface : AVal) = [(.nilIface : AVal)] := (rfl)
@[go_sem] theorem isVal_agg (cs : List AVal) : AVal.isVal (.agg cs : AVal) = true := (rfl)
@[go_sem] theorem cells_agg' (cs : List AVal) : AVal.cells (.agg cs : AVal) = cs := (rfl)
end

end Go.Am

namespace Go.Am
open Go Go.RowKit

theorem cellEq_true {a b : AVal} (h : cellEq a b = some true) : a = b := by
  cases a <;> cases b <;> simp [cellEq] at h
  all_goals first | (obtain ⟨rfl, rfl⟩ := h; rfl) | (subst h; rfl)

theorem cellEq_symm (a b : AVal) : cellEq a b = cellEq b a := by
  cases a <;> cases b <;> simp only [cellEq]
  · congr 1; exact decide_eq_decide.2 eq_comm
  · rename_i k n k' n'
    by_cases h : k = k'
    · subst h; simp; exact eq_comm
    · have : ¬ k' = k := fun e => h e.symm
      simp [h, this]
  · congr 1; exact decide_eq_decide.2 eq_comm

theorem cellEq_int {a b : AVal} {p : Bool} (h : cellEq a b = some p) : a.isInt = b.isInt := by
  cases a <;> cases b <;> simp [cellEq] at h <;> rfl

theorem cellEq_str {a b : AVal} {p : Bool} (h : cellEq a b = some p) : a.isStr = b.isStr := by
  cases a <;> cases b <;> simp [cellEq] at h <;> rfl

theorem keyEq_true {c : KC} {a b : AVal} (h : keyEq c a b = some true) : a = b := by
  unfold keyEq at h
  split at h
  · split at h
    · rename_i e; subst e; simp at h; subst h; rfl
    · cases h
  · simp at h; subst h; rfl
  · simp at h; subst h; rfl
  · split at h
    · rename_i e
      obtain ⟨rfl, rfl, _⟩ := e
      split at h
      · rename_i h1 h2
        simp at h
        obtain ⟨rfl, rfl⟩ := h
        rw [cellEq_true h1, cellEq_true h2]
      · cases h
    · cases h
  · cases h

theorem keyEq_symm (c : KC) (a b : AVal) : keyEq c a b = keyEq c b a := by
  have key : ∀ a b, ∀ x, keyEq c a b = some x → keyEq c b a = some x := by
    intro a b x h
    unfold keyEq at h
    split at h
    · split at h
      · rename_i e; subst e; simp at h; subst h
        simp only [keyEq, if_true]; congr 1; exact decide_eq_decide.2 eq_comm
      · cases h
    · cases h; simp only [keyEq]; congr 1; exact decide_eq_decide.2 eq_comm
    · cases h; simp only [keyEq]; congr 1; exact decide_eq_decide.2 eq_comm
    · split at h
      · rename_i e
        obtain ⟨rfl, rfl, e3, e4, e5, e6⟩ := e
        split at h
        · rename_i h1 h2
          cases h
          have i1 := cellEq_int h1
          have i2 := cellEq_str h2
          rw [cellEq_symm] at h1 h2
          simp only [keyEq, ← i1, ← i2, e3, e4, e5, e6, and_self, if_true, h1, h2]
        · cases h
      · cases h
    · cases h
  cases h : keyEq c a b with
  | some x => exact (key a b x h).symm
  | none =>
    cases h' : keyEq c b a with
    | none => rfl
    | some x => rw [key b a x h'] at h; cases h

theorem keyEq_kind {c c' : KC} {a b d : AVal} {x y : Bool} (h : keyEq c a b = some x) (h' : keyEq c' a d = some y) : c = c' := by
  cases a <;> cases c <;> cases c' <;> first | rfl | (simp [keyEq] at h; done) | (simp [keyEq] at h'; done)

theorem pairwise_either {α : Type} {R : α → α → Prop} : ∀ {l : List α} {x y : α}, l.Pairwise R → x ∈ l → y ∈ l → x ≠ y → R x y ∨ R y x
  | z :: l, x, y, h, hx, hy, hne => by
    obtain ⟨h1, h2⟩ := List.pairwise_cons.1 h
    by_cases e1 : x = z
    · subst e1
      exact .inl (h1 y ((List.mem_cons.1 hy).resolve_left fun e => hne e.symm))
    · by_cases e2 : y = z
      · subst e2
        exact .inr (h1 x ((List.mem_cons.1 hx).resolve_left e1))
      · exact pairwise_either h2 ((List.mem_cons.1 hx).resolve_left e1) ((List.mem_cons.1 hy).resolve_left e2) hne

theorem find_none {c : KC} {k : AVal} : ∀ {es : List (AVal × AVal)}, findKey c k es = some none ↔ ∀ e ∈ es, keyEq c k e.1 = some false
  | [] => by simp [findKey]
  | e :: es => by
    simp only [findKey, List.mem_cons, forall_eq_or_imp]
    cases h : keyEq c k e.1 with
    | none => simp
    | some b => cases b <;> simp [find_none (es := es)]

theorem find_some {c : KC} {k v : AVal} : ∀ {es : List (AVal × AVal)}, findKey c k es = some (some v) → ∃ l1 e l2, es = l1 ++ e :: l2 ∧ keyEq c k e.1 = some true ∧ e.2 = v ∧ ∀ x ∈ l1, keyEq c k x.1 = some false
  | [], h => by simp [findKey] at h
  | e :: es, h => by
    simp only [findKey] at h
    cases hk : keyEq c k e.1 with
    | none => rw [hk] at h; cases h
    | some b =>
      rw [hk] at h
      cases b with
      | true => cases h; exact ⟨[], e, es, rfl, hk, rfl, by simp⟩
      | false =>
        obtain ⟨l1, e', l2, rfl, h1, h2, h3⟩ := find_some h
        exact ⟨e :: l1, e', l2, rfl, h1, h2, fun x hx => by rcases List.mem_cons.1 hx with rfl | hx; exact hk; exact h3 x hx⟩

theorem find_split {c : KC} {k : AVal} {e : AVal × AVal} {l2 : List (AVal × AVal)} (h : keyEq c k e.1 = some true) : ∀ {l1 : List (AVal × AVal)}, (∀ x ∈ l1, keyEq c k x.1 = some false) → findKey c k (l1 ++ e :: l2) = some (some e.2)
  | [], _ => by simp [findKey, h]
  | x :: l1, hl => by
    simp only [List.cons_append, findKey, hl x (by simp)]
    exact find_split h fun y hy => hl y (by simp [hy])

theorem back_split {c : KC} {k v : AVal} {e : AVal × AVal} {l2 : List (AVal × AVal)} (h : keyEq c k e.1 = some true) : ∀ {l1 : List (AVal × AVal)}, (∀ x ∈ l1, keyEq c k x.1 = some false) → putBack c k v (l1 ++ e :: l2) = some (l1 ++ (k, v) :: l2)
  | [], _ => by simp [putBack, h]
  | x :: l1, hl => by
    simp only [List.cons_append, putBack, hl x (by simp)]
    rw [back_split h fun y hy => hl y (by simp [hy])]
    rfl

theorem back_new {c : KC} {k v : AVal} : ∀ {es : List (AVal × AVal)}, (∀ x ∈ es, keyEq c k x.1 = some false) → putBack c k v es = some (es ++ [(k, v)])
  | [], _ => rfl
  | x :: es, h => by
    simp only [putBack, h x (by simp)]
    rw [back_new fun y hy => h y (by simp [hy])]
    rfl

/-- Behind an entry that is the key's own all others are other ones. -/
theorem others {c : KC} {k : AVal} {l1 l2 : List (AVal × AVal)} {e : AVal × AVal} (hd : KDist ((l1 ++ e :: l2).map (·.1))) (h : keyEq c k e.1 = some true) : ∀ x ∈ l1 ++ l2, keyEq c k x.1 = some false := by
  obtain ⟨c0, hp⟩ := hd
  rw [List.pairwise_map] at hp
  obtain ⟨h1, h2, h3⟩ := List.pairwise_append.1 hp
  have hk := keyEq_true h
  intro x hx
  have key : keyEq c0 e.1 x.1 = some false := by
    rcases List.mem_append.1 hx with hx | hx
    · rw [keyEq_symm]; exact h3 x hx e (by simp)
    · exact (List.pairwise_cons.1 h2).1 x hx
  subst hk
  rw [keyEq_kind h key]
  exact key

theorem find_perm {c : KC} {k : AVal} {es es' : List (AVal × AVal)} {r : Option AVal} (hp : es.Perm es') (hd : KDist (es.map (·.1))) (h : findKey c k es = some r) : findKey c k es' = some r := by
  cases r with
  | none => exact find_none.2 fun e he => find_none.1 h e (hp.mem_iff.2 he)
  | some v =>
    obtain ⟨l1, e, l2, rfl, h1, h2, h3⟩ := find_some h
    have ho := others hd h1
    obtain ⟨m1, m2, rfl⟩ := List.append_of_mem (hp.mem_iff.1 (show e ∈ l1 ++ e :: l2 by simp))
    have hp' : (l1 ++ l2).Perm (m1 ++ m2) := (List.perm_middle.symm.trans (hp.trans List.perm_middle)).cons_inv
    rw [find_split h1 fun x hx => ho x (hp'.mem_iff.2 (by simp [hx])), h2]

theorem back_find {c : KC} {k v : AVal} : ∀ {es es2 : List (AVal × AVal)}, putBack c k v es = some es2 → ∃ r, findKey c k es = some r
  | [], _, _ => ⟨none, rfl⟩
  | e :: es, es2, h => by
    simp only [putBack] at h
    simp only [findKey]
    cases hk : keyEq c k e.1 with
    | none => rw [hk] at h; cases h
    | some b =>
      rw [hk] at h
      cases b with
      | true => exact ⟨_, rfl⟩
      | false =>
        simp only [Option.map_eq_some_iff] at h
        obtain ⟨es3, h3, _⟩ := h
        exact back_find h3

theorem put_cases {c : KC} {k v : AVal} {es es2 : List (AVal × AVal)} (h : putKey c k v es = some es2) :
    (findKey c k es = some none ∧ (es2 = es ++ [(k, v)] ∨ es2 = (k, v) :: es)) ∨ (∃ u, findKey c k es = some (some u) ∧ putBack c k v es = some es2) := by
  have back : putBack c k v es = some es2 → (findKey c k es = some none ∧ (es2 = es ++ [(k, v)] ∨ es2 = (k, v) :: es)) ∨ (∃ u, findKey c k es = some (some u) ∧ putBack c k v es = some es2) := by
    intro h
    obtain ⟨r, hr⟩ := back_find h
    cases r with
    | none =>
      rw [back_new (find_none.1 hr)] at h
      cases h
      exact .inl ⟨hr, .inl rfl⟩
    | some u => exact .inr ⟨u, hr, h⟩
  unfold putKey at h
  split at h
  · unfold putFront at h
    split at h
    · cases h; exact .inl ⟨‹_›, .inr rfl⟩
    · exact .inr ⟨_, ‹_›, h⟩
    · cases h
  · exact back h

theorem put_perm {c : KC} {k v : AVal} {es es' es2 : List (AVal × AVal)} (hk : keyOk c k = true) (hp : es.Perm es') (hd : KDist (es.map (·.1))) (h : putKey c k v es = some es2) :
    ∃ es3, putBack c k v es' = some es3 ∧ es2.Perm es3 ∧ KDist (es2.map (·.1)) := by
  rcases put_cases h with ⟨hf, he⟩ | ⟨u, hf, hb⟩
  · have hn := find_none.1 hf
    refine ⟨es' ++ [(k, v)], back_new fun x hx => hn x (hp.mem_iff.2 hx), ?_, c, ?_⟩
    · rcases he with rfl | rfl
      · exact hp.append (.refl _)
      · exact (List.perm_append_singleton _ _).symm.trans (hp.append (.refl _))
    · have hes : (es.map (·.1)).Pairwise fun p q => keyEq c p q = some false := by
        obtain ⟨c0, hc0⟩ := hd
        rw [List.pairwise_map] at hc0 ⊢
        refine hc0.imp_of_mem fun {p q} hp hq hpq => ?_
        have h1 := hn p hp
        rw [keyEq_symm] at h1
        rw [keyEq_kind h1 hpq]
        exact hpq
      rcases he with rfl | rfl
      · rw [List.map_append, List.pairwise_append]
        refine ⟨hes, by simp, fun p hp q hq => ?_⟩
        obtain ⟨e, he, rfl⟩ := List.mem_map.1 hp
        simp at hq
        subst hq
        rw [keyEq_symm]; exact hn e he
      · rw [List.map_cons, List.pairwise_cons]
        refine ⟨fun q hq => ?_, hes⟩
        obtain ⟨e, he, rfl⟩ := List.mem_map.1 hq
        exact hn e he
  · obtain ⟨l1, e, l2, rfl, h1, h2, h3⟩ := find_some hf
    rw [back_split h1 h3] at hb
    cases hb
    have ho := others hd h1
    obtain ⟨m1, m2, rfl⟩ := List.append_of_mem (hp.mem_iff.1 (show e ∈ l1 ++ e :: l2 by simp))
    have hp' : (l1 ++ l2).Perm (m1 ++ m2) := (List.perm_middle.symm.trans (hp.trans List.perm_middle)).cons_inv
    refine ⟨m1 ++ (k, v) :: m2, back_split h1 fun x hx => ho x (hp'.mem_iff.2 (by simp [hx])), List.perm_middle.trans ((hp'.cons _).trans List.perm_middle.symm), ?_⟩
    have hke := keyEq_true h1
    simpa [hke] using hd

end Go.Am

namespace Go.Am
open Go Go.RowKit

def cval : Nat → Value → Option AVal
  | 0, _ => none
  | n + 1, v => match v with
    | .bool b => some (.bool b)
    | .int k n => some (.int k n)
    | .string s => some (.str s.data.toList)
    | .pointer none => some .nilptr
    | .slice none 0 0 => some .nilslice
    | .map none => some .nilmap
    | .nilFunc => some .nilfunc
    | .nilIface => some .nilIface
    | .agg cs => if cs.toList.all Value.oneCell' then (cs.toList.mapM (cval n)).map .agg else none
    | _ => none

def cv (v : Value) : Option AVal := cval 2 v

def trOpd : Operand → Option IOpd
  | .tmp t => some (.t t)
  | .const v => (cv v).map .v
  | .func f => some (.f f)
  | .global _ => none

def trOpds (xs : Array Operand) : Option (List IOpd) := xs.toList.mapM trOpd

def trO : Option Operand → Option (Option IOpd)
  | none => some none
  | some x => (trOpd x).map some

/-- The shape in which a type's values are read: one cell, or so many. -/
def shp (P : Program) (t : TypeId) : Option (Option Nat) :=
  match P.underlying t, P.info? t with
  | some (.struct _), some i | some (.array _ _), some i => some (some i.size)
  | some _, some _ => some none
  | _, _ => none

def szOf (P : Program) (t : TypeId) : Option Nat := (P.info? t).map (·.size)

/-- A size that agrees with the shape. -/
def cellsOf (P : Program) (t : TypeId) : Option Nat :=
  match shp P t, szOf P t with
  | some none, some 1 => some 1
  | some (some n), some m => if n = m then some n else none
  | _, _ => none

def zeroCs (P : Program) (t : TypeId) : Option (List AVal) :=
  match P.info? t with
  | some { zero := some v, .. } => if v.cells.toList.all Value.oneCell' then v.cells.toList.mapM cv else none
  | _ => none

def zeroV (P : Program) (t : TypeId) : Option AVal :=
  match P.info? t with
  | some { zero := some v, .. } => cv v
  | _ => none

/-- The parts of a build: where each lies. -/
def trParts (place : Nat → Option (Nat × Nat)) (ps : Array (Nat × Operand)) : Option (List (Nat × Nat × IOpd)) :=
  ps.toList.mapM fun (i, x) => match place i, trOpd x with
    | some (o, n), some y => some (o, n, y)
    | _, _ => none

def fieldPl (P : Program) (fs : Array Field) (i : Nat) : Option (Nat × Nat) :=
  match fs[i]? with
  | some f => (szOf P f.type).map fun n => (f.offset, n)
  | none => none

def isEq : BinOp → Option Bool
  | .eql => some false
  | .neq => some true
  | _ => none

def isNilC : Operand → Bool
  | .const .nilIface => true
  | _ => false

/-- Fields that are numbers, texts and bools, one cell behind the other. -/
def flatFs (P : Program) : List Field → Nat → Option (List CK)
  | [], _ => some []
  | f :: l, i => if f.name ≠ "_" ∧ f.offset = i then
      match shp P f.type, flatFs P l (i + 1), P.underlying f.type with
      | some none, some ks, some (.int _) => some (.int :: ks)
      | some none, some ks, some .string => some (.str :: ks)
      | some none, some ks, some .bool => some (.bool :: ks)
      | _, _, _ => none
    else none

def trBin (P : Program) (op : BinOp) (t : TypeId) (x y : Operand) : Option QOp :=
  match trOpd x, trOpd y with
  | some x', some y' =>
    match isEq op with
    | none => some (.bin op x' y')
    | some ng => match P.underlying t with
      | some (.int _) | some .string => some (.bin op x' y')
      | some .bool => some (.eq .bool ng x' y')
      | some (.pointer e) => match szOf P e with
        | some (_ + 1) => some (.eq .ptr ng x' y')
        | _ => none
      | some (.interface _) => if isNilC x || isNilC y then some (.eq .iface ng x' y') else none
      | some (.slice _) => some (.eq .slice ng x' y')
      | some (.struct fs) => match flatFs P fs.toList 0 with
        | some ks => if P.stoodInHeld t = false ∧ P.eqGuardType P.depth t = false then some (.eq (.agg ks) ng x' y') else none
        | none => none
      | _ => none
  | _, _ => none

/-- Where a builder may lie: a type, its size, the place. -/
def builderAt : List (Nat × Nat × Nat) := [(90, 2, 0), (92, 3, 1), (133, 15, 6)]

def trConv (P : Program) (s d : TypeId) (x : IOpd) : Option QOp :=
  match P.underlying s, P.underlying d with
  | some (.int _), some (.int k) => some (.conv k x)
  | some .string, some .string => some (.same x)
  | some (.slice e), some .string => match P.underlying e with | some (.int .u8) => some (.bstr x) | _ => none
  | some (.pointer t), some .unsafePointer => match szOf P t with | some (_ + 1) => some (.toU x) | _ => none
  | some .unsafePointer, some (.pointer u) => match P.info? u with | some _ => some (.fromU (builderAt.filter fun (t, n, o) => liesAt P P.depth t (n / P.cellsOf t) o u 1) x) | none => none
  | _, _ => none

def keyC (P : Program) (k : TypeId) : Option KC :=
  match P.underlying k with
  | some (.int _) => some .int
  | some .string => some .str
  | some .bool => some .bool
  | some (.array 2 el) => match P.underlying el, shp P el, szOf P el, P.underlying 3, P.underlying 9, P.info? 3, P.info? 9 with
    | some (.interface _), some none, some 1, some (.int .i64), some .string, some i3, some i9 => if i3.comparable && i9.comparable then some .pair else none
    | _, _, _, _, _, _, _ => none
  | _ => none

inductive Act0 where
  | q (op : QOp)
  | e (op : EOp)

def QOp.isFmt : QOp → Bool
  | .fmt _ => true
  | _ => false

/-- A number in decimal digits: a call that turns nothing. -/
def trFmt : List IOpd → Option Act0
  | [x, .v (.int .i64 n)] => if n = 10 then some (.q (.fmt x)) else none
  | _ => none

theorem trFmt_q {l : List IOpd} {a : Act0} (h : trFmt l = some a) : ∃ x, l = [x, .v (.int .i64 10)] ∧ a = .q (.fmt x) := by
  unfold trFmt at h
  split at h
  · split at h
    · rename_i e; subst e; cases h; exact ⟨_, rfl, rfl⟩
    · cases h
  · cases h

/-- Functions without a text. -/
def trExt (fn : Func) (as : List IOpd) : Option Act0 :=
  if fn.name = "internal/abi.NoEscape" ∧ fn.body = none ∧ fn.origin = "" then match as with | [x] => some (.q (.mov x)) | _ => none else none

theorem trExt_q {fn : Func} {l : List IOpd} {a : Act0} (h : trExt fn l = some a) : ∃ x, l = [x] ∧ a = .q (.mov x) ∧ fn.name = "internal/abi.NoEscape" ∧ fn.body = none ∧ fn.origin = "" := by
  unfold trExt at h
  split at h
  · rename_i hc
    split at h
    · cases h; exact ⟨_, rfl, rfl, hc.1, hc.2.1, hc.2.2⟩
    · cases h
  · cases h

/-- An operation. -/
def trOp (P : Program) (o : Oper) : Option Act0 :=
  match o.op with
  | .move x => (trOpd x).map fun x => .q (.mov x)
  | .assign x => (trOpd x).map fun x => .e (.set x)
  | .pick c a b => match trOpd c, trOpd a, trOpd b with | some c, some a, some b => some (.q (.pick c a b)) | _, _, _ => none
  | .alloc t => (zeroCs P t).map fun z => .e (.alloc t z)
  | .box t x => (trOpd x).map fun x => .e (.box t x)
  | .build t ps => match zeroCs P t, P.underlying t with
    | some z, some (.struct fs) => if fs.toList.all (fun f : Field => (szOf P f.type).isSome) = true then (trParts (fieldPl P fs) ps).map fun l => .q (.build z l) else none
    | some z, some (.array _ el) => match szOf P el with
      | some n => (trParts (fun i => some (i * n, n)) ps).map fun l => .q (.build z l)
      | none => none
    | _, _ => none
  | .buildSlice t n ps => match P.underlying t with
    | some (.slice el) => match cellsOf P el, zeroCs P el with
      | some (es + 1), some z => if z.length = es + 1 ∧ 0 < n ∧ n * (es + 1) ≤ 2 ^ 24 then (trParts (fun i => some (i * (es + 1), es + 1)) ps).map fun l => .e (.bslice el (es + 1) n z l) else none
      | _, _ => none
    | _ => none
  | .load t a => match shp P t, trOpd a with | some n, some a => some (.q (.load n a)) | _, _ => none
  | .store t a v => match szOf P t, trOpd a, trOpd v with | some n, some a, some v => some (.e (.store n a v)) | _, _, _ => none
  | .nilCheck x => (trOpd x).map fun x => .q (.nilc x)
  | .binOp op t x y _ => (trBin P op t x y).map .q
  | .unOp op _ x => (trOpd x).map fun x => .q (.un op x)
  | .convert s d x => match trOpd x with | some x => (trConv P s d x).map .q | none => none
  | .makeInterface t x => match P.underlying t, trOpd x with
    | some (.interface _), _ => none
    | some _, some x => some (.q (.iface t x))
    | _, _ => none
  | .makeFunc fn a c => match trOpds a, trOpds c with | some a, some c => some (.q (.func fn a c)) | _, _ => none
  | .makeMap _ none => some (.e .mkmap)
  | .makeSlice t l c => match P.underlying t, l, c with
    | some (.slice el), .tmp l, .tmp c => match cellsOf P el, zeroCs P el, P.info? el with
      | some (es + 1), some z, some i => if l = c ∧ z.length = es + 1 ∧ i.bytes ≤ 256 then some (.e (.mkslice el (es + 1) z (.t l))) else none
      | _, _, _ => none
    | some (.slice el), .const (.int _ l), .const (.int _ c) => match cellsOf P el, zeroCs P el, P.info? el with
      | some (es + 1), some z, some i => if l = c ∧ z.length = es + 1 ∧ i.bytes ≤ 256 then some (.e (.mkslice el (es + 1) z (.v (.int .i64 l)))) else none
      | _, _, _ => none
    | _, _, _ => none
  | .slice t x lo hi none => match P.underlying t, trOpd x, trO lo, trO hi with
    | some .string, some x, some lo, some hi => some (.q (.slStr x lo hi))
    | some (.slice el), some x, some lo, some hi => match szOf P el with | some es => some (.q (.slList es x lo hi)) | none => none
    | some (.array n el), some x, some none, some none => match szOf P el with | some es => some (.q (.slArr es n x none none)) | none => none
    | _, _, _, _ => none
  | .fieldAddr t x f => match P.underlying t, trOpd x with
    | some (.struct fs), some x => match fieldPl P fs f with | some (o, _ + 1) => some (.q (.addr o x)) | _ => none
    | _, _ => none
  | .field t x f => match P.underlying t, trOpd x with
    | some (.struct fs), some x => match fs[f]? with
      | some f => (shp P f.type).map fun n => .q (.field n f.offset x)
      | none => none
    | _, _ => none
  | .indexAddr t x i => match P.underlying t, trOpd x, trOpd i with
    | some (.array n el), some x, some i => (szOf P el).map fun es => .q (.ixArr es n x i)
    | some (.slice el), some x, some i => match szOf P el with | some (es + 1) => some (.q (.ixSl (es + 1) x i)) | _ => none
    | _, _, _ => none
  | .index t x i => match P.underlying t, trOpd x, trOpd i with
    | some (.array n el), some x, some i => match shp P el, cellsOf P el with | some s, some _ => some (.q (.ixVal s n x i)) | _, _ => none
    | some .string, some x, some i => some (.q (.ixStr x i))
    | _, _, _ => none
  | .lookup t m k ok => match P.underlying t, trOpd m, trOpd k with
    | some (.map kt el), some m, some k => match keyC P kt, zeroV P el with | some c, some z => some (.q (.lookup c z ok m k)) | _, _ => none
    | _, _, _ => none
  | .mapUpdate t m k v | .insert t m k v => match P.underlying t, trOpd m, trOpd k, trOpd v with
    | some (.map kt _), some m, some k, some v => match keyC P kt with | some c => some (.e (.mapupd c m k v)) | _ => none
    | _, _, _, _ => none
  | .extract t i => (trOpd t).map fun t => .q (.extr i t)
  | .typeAssert x _ t true => match P.underlying t, zeroV P t, trOpd x with
    | some (.interface _), _, _ => none
    | some _, some z, some x => some (.q (.assert t z x))
    | _, _, _ => none
  | .typeAssert x _ t false => match P.underlying t, trOpd x with
    | some (.interface _), _ => none
    | some _, some x => some (.q (.assert1 t x))
    | _, _ => none
  | .call c => match c.callee with
    | .value (.func f) => match P.funcs[f]?, trOpds c.args with
      | some fn, some as => if fn.name = "strconv.FormatInt" then trFmt as else if fn.name ≠ "runtime.NumGoroutine" ∧ fn.body.isSome then some (.e (.call f as)) else trExt fn as
      | _, _ => none
    | .value (.tmp x) => (trOpds c.args).map fun as => .e (.callv (.t x) as)
    | .builtin .len => match c.argTypes[0]?.bind P.underlying, trOpds c.args with
      | some .string, some [x] => some (.q (.len .str x))
      | some (.slice _), some [x] => some (.q (.len .slice x))
      | some (.map _ _), some [x] => some (.q (.len .map x))
      | _, _ => none
    | .builtin .max => match trOpds c.args with
      | some [x, y] => some (.q (.maxi x y))
      | _ => none
    | .builtin .unsafeSliceData => match trOpds c.args with
      | some [x] => some (.q (.sdata x))
      | _ => none
    | .builtin .unsafeString => match c.argTypes[0]?.bind P.underlying, trOpds c.args with
      | some (.pointer el), some [p, n] => if szOf P el = some 1 then some (.e (.ustr el p n)) else none
      | _, _ => none
    | .builtin .append => match c.argTypes[0]?.bind P.underlying, c.argTypes[1]?.bind P.underlying, trOpds c.args with
      | some (.slice el), some x, some [s, y] => match x, cellsOf P el, zeroCs P el, P.info? el with
        | .slice _, some (es + 1), some z, some i => if z.length = es + 1 ∧ 0 < i.bytes then some (.e (.append el (es + 1) i.bytes s y)) else none
        | .string, some (es + 1), some z, some i => if z.length = es + 1 ∧ 0 < i.bytes then some (.e (.append el (es + 1) i.bytes s y)) else none
        | _, _, _, _ => none
      | _, _, _ => none
    | .builtin .copy => match c.argTypes[0]?.bind P.underlying, trOpds c.args with
      | some (.slice el), some [s, y] => match cellsOf P el with | some (es + 1) => some (.e (.copy (es + 1) s y)) | _ => none
      | _, _ => none
    | _ => none
  | .panic x => (trOpd x).map fun x => .e (.panic x)
  | _ => none

end Go.Am

