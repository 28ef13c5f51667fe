/- Contract of put: a version more. -/
import Derived.Test.YtdmnejanckdajaaDoorVers3
import Derived.Test.YtdmnejanckdajaaDoorVersK
namespace Go.Proofs.YtdmnejanckdajaaDoor
set_option linter.unusedVariables false
set_option linter.unusedSimpArgs false
set_option maxRecDepth 100000
open Go.RowKit

theorem infoVer : (Tryd.prog.info? 63).map (fun i => (i.zero, i.size, i.bytes)) = some (some (.agg #[.int .i64 0, .string ⟨#[]⟩, .bool false]), 3, 32) := by kernel_rfl
theorem putE_zero {s : List UInt8} {v : Ver} {top : Int} (h : putE s v top = 0) : keyB s = true ∧ v.val.length ≤ 12 ∧ 1 ≤ v.n ∧ v.n ≤ 1000000 ∧ top ≤ v.n := by
  unfold putE at h
  split at h
  · simp at h
  · rename_i h1
    split at h
    · simp at h
    · split at h
      · simp at h
      · cases hk : keyB s with
        | false => exact absurd (.inl hk) h1
        | true =>
          have : ¬ 12 < v.val.length := fun h => h1 (.inr h)
          exact ⟨rfl, by omega, by omega, by omega, by omega⟩
theorem addV_mem {l : List Ver} {v x : Ver} (h : x ∈ addV l v) : x = v ∨ x ∈ l := by
  unfold addV at h
  split at h
  · split at h
    · rcases List.mem_append.1 h with h | h
      · exact .inr ((List.dropLast_sublist l).subset h)
      · exact .inl (by simpa using h)
    · rcases List.mem_append.1 h with h | h
      · exact .inr h
      · exact .inl (by simpa using h)
  · exact .inl (by simpa using h)
theorem addV_len (l : List Ver) (v : Ver) : (addV l v).length ≤ l.length + 1 := by
  unfold addV
  split
  · split
    · simp
    · simp
  · simp
theorem addV_ne (l : List Ver) (v : Ver) : addV l v ≠ [] := by
  unfold addV
  split
  · split <;> simp
  · simp
theorem addV_rise {l : List Ver} {v : Ver} (h : l.Pairwise (fun x y => x.n < y.n)) (hv : ∀ x ∈ l, x.n ≤ v.n) : (addV l v).Pairwise (fun x y => x.n < y.n) := by
  unfold addV
  split
  · rename_i u hu
    have hl : l = l.dropLast ++ [u] := by
      obtain ⟨ys, rfl⟩ := List.getLast?_eq_some_iff.1 hu
      simp
    rw [hl, List.pairwise_append] at h
    split
    · rename_i he
      rw [List.pairwise_append]
      refine ⟨h.1, by simp, ?_⟩
      intro x hx y hy
      simp at hy
      subst hy
      have := h.2.2 x hx u (by simp)
      omega
    · rename_i he
      rw [List.pairwise_append]
      refine ⟨by rw [hl, List.pairwise_append]; exact h, by simp, ?_⟩
      intro x hx y hy
      simp at hy
      subst hy
      have hu2 := hv u (by rw [hl]; simp)
      rw [hl] at hx
      rcases List.mem_append.1 hx with hx | hx
      · have := h.2.2 x hx u (by simp)
        omega
      · simp at hx
        subst hx
        omega
  · simp
theorem Good.put {F : List UInt8 → List Ver} {top : Int} {m : Nat} {s : List UInt8} {v : Ver} (h : Good F top m) (hp : putE s v top = 0) : Good (putV F s v) v.n (m + 1) := by
  obtain ⟨p1, p2, p3, p4, p5⟩ := putE_zero hp
  unfold putV
  refine ⟨?_, ?_, ?_, ?_, by omega⟩
  · intro x
    by_cases hx : x = s
    · subst hx
      rw [upd_same]
      have := addV_len (F x) v
      have := h.len x
      omega
    · rw [upd_other _ _ hx]
      have := h.len x
      omega
  · intro x y hy
    by_cases hx : x = s
    · subst hx
      rw [upd_same] at hy
      rcases addV_mem hy with rfl | hy
      · exact ⟨p3, Int.le_refl _, p2⟩
      · have := h.num x y hy
        omega
    · rw [upd_other _ _ hx] at hy
      have := h.num x y hy
      omega
  · intro x hx
    by_cases hxs : x = s
    · subst hxs
      unfold keyB at p1
      simp at p1
      exact p1
    · rw [upd_other _ _ hxs] at hx
      exact h.key x hx
  · intro x
    by_cases hx : x = s
    · subst hx
      rw [upd_same]
      exact addV_rise (h.rise x) (fun y hy => by have := h.num x y hy; omega)
    · rw [upd_other _ _ hx]
      exact h.rise x
end Go.Proofs.YtdmnejanckdajaaDoor
