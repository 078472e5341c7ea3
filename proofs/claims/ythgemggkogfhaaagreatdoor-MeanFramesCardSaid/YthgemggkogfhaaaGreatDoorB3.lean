/-
  Functions of the library. Conditions: none.
-/
import Derived.Test.YthgemggkogfhaaaGreatDoorShelf
import Derived.Lib.LaidTab
import Derived.Lib.Space
import Derived.Lib.ItoaNum
import Derived.Test.YthgemggkogfhaaaGreatDoorB2
import Derived.Lib.ParseIntB
import Derived.Lib.AppendIntMem
import Derived.Lib.AtoiErrMem
namespace Go.Am
open Go Go.RowKit Go.Proofs

/-- The library's tables lie as its text lays them. -/
structure W0Ok (w0 : World) : Prop where
  space : Lib.TabIs Tryz.prog w0 "strings.asciiSpace" .u8 Lib.asciiSpaceTab
  pow : Lib.TabIs Tryz.prog w0 "internal/strconv.uint64pow10" .u64 Lib.pow10Tab
  errS : ∃ ev, w0.cell? ⟨Tryz.laysC174_ren.g 15, 0, none⟩ = some ev ∧ (ev = .nilIface ∨ ∃ te pe, ev = .iface te pe)
  errR : ∃ ev, w0.cell? ⟨Tryz.laysC174_ren.g 16, 0, none⟩ = some ev ∧ (ev = .nilIface ∨ ∃ te pe, ev = .iface te pe)

end Go.Am

namespace Go.Am
open Go Go.RowKit Go.Proofs

section
variable {P : Program} {w0 : World} {φ : Phi} {σ : ASt} {w w' : World}

/-- A world whose old blocks are as they were. -/
theorem Sim.below (s : Sim w0 φ σ w) (hb : Below w.heap.size w w') : Ext φ w φ w' ∧ Sim w0 φ σ w' := by
  have hk : ∀ b, b < w.heap.size → w'.heap[b]? = w.heap[b]? := fun b h => hb.block b h
  have x : Ext φ w φ w' := by
    refine ⟨fun _ r h => ⟨r, h, r.le_refl⟩, fun _ => Nat.le_refl _, fun b o ho => ?_⟩
    have hb : b < w.heap.size := by
      rcases Nat.lt_or_ge b w.heap.size with h' | h'
      · exact h'
      · rw [s.hi_new h'] at ho; omega
    simp only [World.cell?, hk b hb]
  refine ⟨x, ⟨s.len, fun g o r h1 h2 => ?_, s.uniq, fun b hb' => ?_, ?_⟩⟩
  · have ho := s.obj g o r h1 h2
    exact ho.mono x fun b hb => ⟨hk b (owns_lt ho hb).1, rfl⟩
  · obtain ⟨c, el, fr, h1, h2⟩ := s.hiok b hb'
    have hlt : b < w.heap.size := by
      rcases Nat.lt_or_ge b w.heap.size with h' | h'
      · exact h'
      · simp [Array.getElem?_eq_none h'] at h1
    exact ⟨c, el, fr, by rw [hk b hlt]; exact h1, h2⟩
  · exact s.frame.trans ⟨hb.os, hb.tape, hb.output, hb.size, fun b h => hk b (Nat.lt_of_lt_of_le h s.frame.size)⟩

theorem tab_below {name : String} {k : IntKind} {zs : List Int} (h : Lib.TabIs P w0 name k zs) (hb : Below w0.heap.size w0 w) : Lib.TabIs P w name k zs :=
  Lib.tabBelow_of_tabIs h w hb

theorem vr_str {s : List UInt8} {c : Value} (h : VR φ w (.str s) c) : c = .string ⟨s.toArray⟩ := by cases h; rfl
theorem vr_int' {k : IntKind} {n : Int} {c : Value} (h : VR φ w (.int k n) c) : c = .int k n := by cases h; rfl

theorem vrs_one {a : AVal} {cs : List Value} (h : VRs φ w [a] cs) : ∃ c, cs = [c] ∧ VR φ w a c := by
  obtain ⟨c, l, rfl, h1, h2⟩ := h.inv_cons
  have := h2.1
  cases l with
  | nil => exact ⟨c, rfl, h1⟩
  | cons => simp at this

theorem vrs_two {a b : AVal} {cs : List Value} (h : VRs φ w [a, b] cs) : ∃ c d, cs = [c, d] ∧ VR φ w a c ∧ VR φ w b d := by
  obtain ⟨c, l, rfl, h1, h2⟩ := h.inv_cons
  obtain ⟨d, rfl, h3⟩ := vrs_one h2
  exact ⟨c, d, rfl, h1, h3⟩

theorem vrs_three {a b e : AVal} {cs : List Value} (h : VRs φ w [a, b, e] cs) : ∃ c d f, cs = [c, d, f] ∧ VR φ w a c ∧ VR φ w b d ∧ VR φ w e f := by
  obtain ⟨c, l, rfl, h1, h2⟩ := h.inv_cons
  obtain ⟨d, f, rfl, h3, h4⟩ := vrs_two h2
  exact ⟨c, d, f, rfl, h1, h3, h4⟩
end

/-- Whether a function can be called: reckoned. -/
def callableB (P : Program) (f : FuncId) : Bool :=
  match P.funcs[f]? with
  | some fn => fn.name != "runtime.NumGoroutine" && fn.body.isSome
  | none => false

theorem callable_of {P : Program} {f : FuncId} (h : callableB P f = true) : Callable P f := by
  unfold callableB at h
  split at h
  · rename_i fn hf
    simp only [Bool.and_eq_true, bne_iff_ne, ne_eq] at h
    exact ⟨fn, hf, h.1, h.2⟩
  · cases h

def pIndexByte (args : List AVal) : M AVal := fun σ =>
  match args with
  | [.str s, .int .u8 c] => .ok (.int .i64 (Lib.indexByte s c.toNat.toUInt8)) σ
  | _ => .bad

theorem pIndexByte_ok (w0 : World) : PrimOk Tryz.prog w0 216 pIndexByte := by
  intro args σ hb
  refine ⟨callable_of (by kernel_rfl), fun φ w cargs s hv => ?_⟩
  unfold pIndexByte at hb ⊢
  split at hb
  · obtain ⟨c, d, rfl, h1, h2⟩ := vrs_two hv
    rename_i s1 c1
    rw [vr_str h1, vr_int' h2]
    refine (Any.stringslite_IndexByte Tryz.lays217 _ c1 w).mono ?_
    rintro e w' ⟨rfl, rfl⟩
    exact ⟨_, φ, rfl, .int _ _, .refl φ _, s⟩
  · exact absurd rfl hb

def pContains (args : List AVal) : M AVal := fun σ =>
  match args with
  | [.str s, .str [c]] => .ok (.bool (decide (0 ≤ Lib.indexByte s c))) σ
  | _ => .bad

theorem pContains_ok (w0 : World) : PrimOk Tryz.prog w0 117 pContains := by
  intro args σ hb
  refine ⟨callable_of (by kernel_rfl), fun φ w cargs s hv => ?_⟩
  unfold pContains at hb ⊢
  split at hb
  · obtain ⟨c, d, rfl, h1, h2⟩ := vrs_two hv
    rename_i s1 c1
    rw [vr_str h1, vr_str h2]
    refine (Any.strings_Contains_one Tryz.lays144 _ c1 w).mono ?_
    rintro e w' ⟨rfl, rfl⟩
    exact ⟨_, φ, rfl, .bool _, .refl φ _, s⟩
  · exact absurd rfl hb

def pFields (args : List AVal) : M AVal := fun σ =>
  match args with
  | [.str s] => if s.length < 4294967281 ∧ s.all (fun b => decide (b.toNat < 128)) = true then .ok (.list (some σ.length) 1 ((Lib.fields s).map .str)) (σ ++ [.tok (Lib.fields s).length 9]) else .bad
  | _ => .bad

theorem pFields_ok {w0 : World} (h0 : W0Ok w0) : PrimOk Tryz.prog w0 124 pFields := by
  intro args σ hb
  refine ⟨callable_of (by kernel_rfl), fun φ w cargs s hv => ?_⟩
  unfold pFields at hb ⊢
  split at hb
  · obtain ⟨c, rfl, h1⟩ := vrs_one hv
    rename_i s1
    rw [vr_str h1]
    split at hb
    · rename_i hc
      rw [if_pos hc]
      have hasc : ∀ (j : Nat) b, s1[j]? = some b → b.toNat < 128 := fun j b hj => by
        have := List.all_eq_true.1 hc.2 b (List.mem_of_getElem? hj)
        simpa using this
      refine (Any.strings_Fields Tryz.lays157 (by kernel_rfl) (by kernel_rfl) ⟨s1.toArray⟩ w (by simpa [ByteArray.size] using hc.1) (by simpa using hasc) (tab_below h0.space s.frame)).mono ?_
      have h9 : Tryz.lays157_ren.t 9 = 9 := by kernel_rfl
      rw [h9]
      rintro e w' ⟨rfl, rfl⟩
      have el : Lib.fields (ByteArray.mk s1.toArray).data.toList = Lib.fields s1 := by simp
      rw [el]
      generalize hcs : ((Lib.fields s1).map fun l => Value.string ⟨l.toArray⟩) = cs
      have hlen : cs.length = (Lib.fields s1).length := by rw [← hcs]; simp
      obtain ⟨x, s'⟩ := s.newTok (Lib.fields s1).length 1 (Lib.fields s1).length (by omega) (Nat.le_refl _) cs.toArray 9 (by simp [hlen])
      refine ⟨_, _, rfl, ?_, x, s'⟩
      have hget : ∀ i, i < (Lib.fields s1).length → cs[i]? = some (cs.getD i undef) := fun i hi => by
        rw [List.getElem?_eq_getElem (by omega)]
        simp [List.getD, hlen, hi]
      have key := VR.list (φ := ⟨φ.objs ++ [.tok (Lib.fields s1).length w.heap.size 0 1 (Lib.fields s1).length 9], fun b => if b = w.heap.size then (Lib.fields s1).length * 1 else φ.hi b⟩) (w := w.alloc (.cells cs.toArray 9)) (some σ.length) 1 ((Lib.fields s1).map .str) w.heap.size 0 (Lib.fields s1).length (fun i _ => cs.getD i undef)
        (fun e he => by obtain ⟨l, _, rfl⟩ := List.mem_map.1 he; rfl)
        (fun i hi j hj => by
          simp at hi
          have : j = 0 := by omega
          subst this
          rw [cell_of_block (heap_alloc_new _ _)]
          simpa using hget i hi)
        (fun i hi j hj => by
          simp at hi
          have h2 : cs.getD i undef ∈ cs := by
            have := hget i hi
            exact List.mem_of_getElem? this
          rw [← hcs] at h2
          obtain ⟨l, _, e⟩ := List.mem_map.1 h2
          rw [hcs] at e
          rw [← e]; rfl)
        (fun i e he j a ha => by
          simp only [List.getElem?_map, Option.map_eq_some_iff] at he
          obtain ⟨l, hl, rfl⟩ := he
          simp [AVal.cells] at ha
          cases j with
          | succ j => simp at ha
          | zero =>
            simp at ha
            subst ha
            have hi := lt_of_get hl
            have h3 := hget i hi
            rw [← hcs] at h3
            simp only [List.getElem?_map, hl, Option.map_some, Option.some.injEq] at h3
            rw [hcs] at h3
            rw [← h3]
            exact .str l)
        (fun h => by simp)
        (by simp)
        (fun k hk => by
          cases hk
          refine ⟨(Lib.fields s1).length, w.heap.size, 0, (Lib.fields s1).length, 9, ?_, by simp, fun _ => ⟨rfl, rfl, rfl⟩⟩
          rw [s.len]; simp)
      simpa using key
    · exact absurd rfl hb
  · exact absurd rfl hb

def pItoa (args : List AVal) : M AVal := fun σ =>
  match args with
  | [.int .i64 n] => if -9223372036854775808 ≤ n ∧ n ≤ 9223372036854775807 then .ok (.str (Lib.itoa n)) σ else .bad
  | _ => .bad

theorem pItoa_ok {w0 : World} (h0 : W0Ok w0) : PrimOk Tryz.prog w0 134 pItoa := by
  intro args σ hb
  refine ⟨callable_of (by kernel_rfl), fun φ w cargs s hv => ?_⟩
  unfold pItoa at hb ⊢
  split at hb
  · obtain ⟨c, rfl, h1⟩ := vrs_one hv
    rename_i n
    rw [vr_int' h1]
    split at hb
    · rename_i hc
      rw [if_pos hc]
      refine (Any.strconv_Itoa Tryz.laysM171 n hc.1 hc.2 w (tab_below h0.pow s.frame)).mono ?_
      rintro e w' ⟨rfl, k, os, rfl⟩
      obtain ⟨x, s'⟩ := s.grow k os
      exact ⟨_, φ, rfl, .str _, x, s'⟩
    · exact absurd rfl hb
  · exact absurd rfl hb

set_option maxRecDepth 100000 in
theorem fmt_ok {w0 : World} (h0 : W0Ok w0) : FmtOk Tryz.prog w0 := by
  intro f fn hf hn
  have key : (List.range Tryz.prog.funcs.size).all (fun f => match Tryz.prog.funcs[f]? with | some fn => fn.name != "strconv.FormatInt" || f == 78 | none => true) = true := by kernel_rfl
  have hlt : f < Tryz.prog.funcs.size := (Array.getElem?_eq_some_iff.1 hf).1
  have hfn : f = 78 := by
    have := List.all_eq_true.1 key f (List.mem_range.2 hlt)
    rw [hf] at this
    simpa [hn] using this
  subst hfn
  refine ⟨?_, fun n h1 h2 w hb => Any.strconv_FormatInt_10 Tryz.laysM173 n h1 h2 w (tab_below h0.pow hb)⟩
  obtain ⟨fn', k1, k2, k3⟩ := callable_of (P := Tryz.prog) (f := 78) (by kernel_rfl)
  rw [k1] at hf; cases hf
  exact k3

def pParseInt (args : List AVal) : M AVal := fun σ =>
  match args with
  | [.str s, .int .i64 10, .int .i64 64] =>
    if s.length ≤ 281474976710656 then
      match Lib.parseIntB 64 s with
      | .ok v => .ok (.tuple [.int .i64 v, .nilIface]) σ
      | .range => .ok (.tuple [.int .i64 (Lib.intSat 64 s), .iface (Tryz.laysC174_ren.t 168) .undef]) σ
      | _ => .ok (.tuple [.int .i64 0, .iface (Tryz.laysC174_ren.t 168) .undef]) σ
    else .bad
  | _ => .bad

theorem vr_pair {φ : Phi} {w : World} {a b : AVal} {c d : Value} (h : VR φ w a c) (k : VR φ w b d) : VR φ w (.tuple [a, b]) (.tuple #[c, d]) := by
  have := VRs.cons h (VRs.cons k VRs.nil)
  exact .tuple _ _ this.1 this.2

theorem pParseInt_ok {w0 : World} (h0 : W0Ok w0) : PrimOk Tryz.prog w0 67 pParseInt := by
  intro args σ hb
  refine ⟨callable_of (by kernel_rfl), fun φ w cargs s hv => ?_⟩
  unfold pParseInt at hb ⊢
  split at hb
  · obtain ⟨c, d, e, rfl, h1, h2, h3⟩ := vrs_three hv
    rename_i s1
    rw [vr_str h1, vr_int' h2, vr_int' h3]
    split at hb
    · rename_i hc
      rw [if_pos hc]
      have hsz : (ByteArray.mk s1.toArray).size = s1.length := by simp [ByteArray.size]
      obtain ⟨ev, hev, hor⟩ := h0.errS
      obtain ⟨ev2, hev2, hor2⟩ := h0.errR
      have glob : ∀ (g : Nat) v, w0.cell? ⟨g, 0, none⟩ = some v → w.cell? ⟨g, 0, none⟩ = some v := fun g v h => by
        have hlt : g < w0.heap.size := by
          rcases Nat.lt_or_ge g w0.heap.size with h' | h'
          · exact h'
          · simp [World.cell?, Array.getElem?_eq_none h'] at h
        simp only [World.cell?, s.frame.block g hlt] at h ⊢
        exact h
      rcases hp : Lib.parseIntB 64 s1 with v | _ | _
      · -- a number
        refine (Any.strconv_ParseInt_10_at64_ok Tryz.laysC174 ⟨s1.toArray⟩ (by rw [hsz]; omega) v (by simpa using hp) w).mono ?_
        rintro e w' ⟨rfl, hw⟩
        have hbel : Below w.heap.size w w' := by
          rcases hw with rfl | ⟨t, rfl⟩
          · exact Below.refl _ _
          · exact Lib.bytesWorld_below _ _ _
        obtain ⟨x, s'⟩ := s.below hbel
        exact ⟨_, φ, rfl, vr_pair (.int _ _) .nilIface, x, s'⟩
      · -- no number
        refine (Any.strconv_ParseInt_10_at64_syntax Tryz.laysC174 ⟨s1.toArray⟩ (by rw [hsz]; omega) (by simpa using hp) ev w (glob _ _ hev) hor).mono ?_
        rintro e w' ⟨N, rfl, _, _, hbel⟩
        obtain ⟨x, s'⟩ := s.below hbel
        exact ⟨_, φ, rfl, vr_pair (.int _ _) (.iface _ _ _ (.undef _)), x, s'⟩
      · -- too great a number
        refine (Any.strconv_ParseInt_10_at64_range Tryz.laysC174 ⟨s1.toArray⟩ (by rw [hsz]; omega) (by simpa using hp) ev2 w (glob _ _ hev2) hor2).mono ?_
        rintro e w' ⟨N, rfl, _, _, hbel⟩
        obtain ⟨x, s'⟩ := s.below hbel
        exact ⟨_, φ, rfl, vr_pair (.int _ _) (.iface _ _ _ (.undef _)), x, s'⟩
    · exact absurd rfl hb
  · exact absurd rfl hb

end Go.Am

