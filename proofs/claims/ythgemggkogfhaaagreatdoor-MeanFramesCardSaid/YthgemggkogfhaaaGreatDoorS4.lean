/-
  What shown answers; what MeanFrames answers. Conditions: none.
-/
import Derived.Test.YthgemggkogfhaaaGreatDoorS1
import Derived.Test.YthgemggkogfhaaaGreatDoorS2
import Derived.Test.YthgemggkogfhaaaGreatDoorS3
namespace Go.Am
open Go Go.RowKit
set_option maxRecDepth 100000

def tab19 : List Memo := [mt0, mr0, mt1, mr1, mt2, mr2, mt3, mr3]
theorem tab19_ok : ∀ m ∈ tab19, m.Ok EF := by
  intro m hm
  simp only [tab19, List.mem_cons, List.not_mem_nil, or_false] at hm
  rcases hm with rfl | rfl | rfl | rfl | rfl | rfl | rfl | rfl
  · exact okt0
  · exact okr0
  · exact okt1
  · exact okr1
  · exact okt2
  · exact okr2
  · exact okt3
  · exact okr3

def m26 : Memo := ⟨26, [], 0, [], .bool true, 3635⟩
theorem ok26 : m26.Ok EF := memo_by repT tab19_ok (fn := i26) (by kernel_rfl) (by kernel_rfl) 100 (by kernel_rfl)

/-- The sources that are shown come out as the document says. -/
theorem shown19 : ∃ σ, evL EF 26 [] [] = .ok (.bool true) σ ∧ σ.length = 3635 := by
  obtain ⟨σ', h1, h2, _⟩ := ok26.2 [] rfl (fun p hp => by cases hp)
  exact ⟨σ', h1, h2⟩

end Go.Am

namespace Go.Am
open Go Go.RowKit
set_option maxRecDepth 100000

def tab26 : List Memo := [m26]
theorem tab26_ok : ∀ m ∈ tab26, m.Ok EF := by
  intro m hm
  simp only [tab26, List.mem_cons, List.not_mem_nil, or_false] at hm
  subst hm; exact ok26
def m11 (n : Nat) : Memo := ⟨11, [.int .i64 n], 0, [], .bool true, 3635⟩

theorem ok11 (n : Nat) (hc : (m11 n).chk (bodyK ET i11.res (i11.body.evK 100 (orK (memoK tab26) (evFK ET 100)) ⟨enter (m11 n).args, []⟩ (m11 n).start)) = true) : (m11 n).Ok EF :=
  memo_or repT tab26_ok (fn := i11) (by kernel_rfl) (by kernel_rfl) 100 hc

theorem in24 : ∀ n : Nat, n ≤ 24 → (m11 n).Ok EF
  | 0, _ => ok11 0 (by kernel_rfl)
  | 1, _ => ok11 1 (by kernel_rfl)
  | 2, _ => ok11 2 (by kernel_rfl)
  | 3, _ => ok11 3 (by kernel_rfl)
  | 4, _ => ok11 4 (by kernel_rfl)
  | 5, _ => ok11 5 (by kernel_rfl)
  | 6, _ => ok11 6 (by kernel_rfl)
  | 7, _ => ok11 7 (by kernel_rfl)
  | 8, _ => ok11 8 (by kernel_rfl)
  | 9, _ => ok11 9 (by kernel_rfl)
  | 10, _ => ok11 10 (by kernel_rfl)
  | 11, _ => ok11 11 (by kernel_rfl)
  | 12, _ => ok11 12 (by kernel_rfl)
  | 13, _ => ok11 13 (by kernel_rfl)
  | 14, _ => ok11 14 (by kernel_rfl)
  | 15, _ => ok11 15 (by kernel_rfl)
  | 16, _ => ok11 16 (by kernel_rfl)
  | 17, _ => ok11 17 (by kernel_rfl)
  | 18, _ => ok11 18 (by kernel_rfl)
  | 19, _ => ok11 19 (by kernel_rfl)
  | 20, _ => ok11 20 (by kernel_rfl)
  | 21, _ => ok11 21 (by kernel_rfl)
  | 22, _ => ok11 22 (by kernel_rfl)
  | 23, _ => ok11 23 (by kernel_rfl)
  | 24, _ => ok11 24 (by kernel_rfl)
  | n + 25, h => absurd h (by omega)

theorem f30_out (n : Int) (h : n < 0 ∨ 24 < n) (σ : ASt) : evL EF 30 [.int .i64 n] σ = .ok (.int .i64 0) σ := by
  rw [evL_fn (fn := i30) (by kernel_rfl) (by kernel_rfl)]
  by_cases h0 : n < 0
  · simp [i30, enter, cl_seq, cl_ops, cl_cond, cl_ret, thl_norm, thl_ret, csl_true, go_sem, abin, intBin, h0]
  · have h1 : n > 24 := by omega
    simp [i30, enter, cl_seq, cl_ops, cl_cond, cl_ret, thl_norm, thl_ret, csl_true, go_sem, abin, intBin, h0, h1]

theorem f31_out (n : Int) (h : n < 0 ∨ 24 < n) (σ : ASt) : evL EF 31 [.int .i64 n] σ = .ok (.int .i64 0) σ := by
  rw [evL_fn (fn := i31) (by kernel_rfl) (by kernel_rfl)]
  by_cases h0 : n < 0
  · simp [i31, enter, cl_seq, cl_ops, cl_cond, cl_ret, thl_norm, thl_ret, csl_true, go_sem, abin, intBin, h0]
  · have h1 : n > 24 := by omega
    simp [i31, enter, cl_seq, cl_ops, cl_cond, cl_ret, thl_norm, thl_ret, csl_true, go_sem, abin, intBin, h0, h1]

theorem f11_out (n : Int) (h : n < 0 ∨ 24 < n) : ∃ σ, evL EF 11 [.int .i64 n] [] = .ok (.bool true) σ := by
  obtain ⟨σ, hs, _⟩ := shown19
  refine ⟨σ, ?_⟩
  rw [evL_fn (fn := i11) (by kernel_rfl) (by kernel_rfl)]
  by_cases h0 : n < 0
  · simp [i11, enter, cl_seq, cl_ops, cl_ret, thl_norm, go_sem, hs, f30_out n h, f31_out n h, abin, intBin, h0]
  · have h1 : n > 24 := by omega
    simp [i11, enter, cl_seq, cl_ops, cl_ret, thl_norm, go_sem, hs, f30_out n h, f31_out n h, abin, intBin, h0, h1]

/-- WHATEVER IS ASKED. -/
theorem f11 (n : Int) : ∃ σ, evL EF 11 [.int .i64 n] [] = .ok (.bool true) σ := by
  by_cases h : n < 0 ∨ 24 < n
  · exact f11_out n h
  · obtain ⟨k, rfl⟩ : ∃ k : Nat, n = k := ⟨n.toNat, by omega⟩
    obtain ⟨σ', h1, _⟩ := (in24 k (by omega)).2 [] rfl (fun p hp => by cases hp)
    exact ⟨σ', h1⟩

end Go.Am

