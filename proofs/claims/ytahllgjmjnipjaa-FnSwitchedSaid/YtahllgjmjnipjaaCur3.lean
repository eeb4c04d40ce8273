/- The draw of two sign games. -/
import Derived.Test.YtahllgjmjnipjaaCur2
namespace Go.Proofs.Ytahllgjmjnipjaa
open Go.Aw
set_option maxRecDepth 100000

def wide5 (m : List (List Int)) : Nat := if m.length = 0 then 1 else (m.getD 0 []).length
theorem l5Wide_spec (m : List (List Int)) : FSpec Try.prog 23 [.t (.rows m)] (ex (.c (.int .i64 (wide5 m))) []) := by
  refine fspec tyOk mx Try.func23 rfl (by kernel_rfl) rfl ?_
  conv => whnf
  refine ⟨fun h => ?_, fun h => ?_⟩
  · have h : m.length = 0 := by simpa using h
    conv => whnf
    exact ⟨by rw [wide5, if_pos h]; rfl, rfl⟩
  · have h : m.length ≠ 0 := by simpa using h
    conv => whnf
    refine ⟨0, rfl, by omega, ?_⟩
    conv => whnf
    exact ⟨by rw [wide5, if_neg h], rfl⟩

/-- a small table -/
def SmM (m : List (List Int)) : Prop := m.length ≤ 5 ∧ ∀ r, r ∈ m → r.length ≤ 5 ∧ ∀ x, x ∈ r → InR x
theorem SmM.ok {m : List (List Int)} (h : SmM m) : OkM m ∧ SzM m := by
  refine ⟨⟨by have := h.1; omega, fun r hr => ⟨by have := (h.2 r hr).1; omega, (h.2 r hr).2⟩⟩, ?_⟩
  have h1 := tot_le_mul (m := m) (n := 5) (fun r hr => (h.2 r hr).1)
  have h2 := h.1
  have : m.length * 5 ≤ 5 * 5 := Nat.mul_le_mul_right 5 h2
  unfold SzM; omega
theorem SmM.wide {m : List (List Int)} (h : SmM m) : wide5 m ≤ 100 := by
  unfold wide5
  split
  · omega
  · rename_i h0
    have := (h.2 _ (getD_mem (d := []) (k := 0) (by omega : 0 < m.length))).1
    omega

theorem switchRes_sm {m : List (List Int)} {p q : List Int} (h : switchOk m p q = true) : SmM (switchRes m p q) ∧ 0 < (switchRes m p q).length ∧ 0 < ((switchRes m p q).getD 0 []).length := by
  have hg : goodM m = true := by
    simp only [switchOk, Bool.and_eq_true] at h
    exact h.1.1
  obtain ⟨g1, g2, g3, g4, g5⟩ := goodM_spec hg
  have e : switchRes m p q = switchR m p q := by rw [switchRes, if_pos h]
  rw [e]
  have hl : (switchR m p q).length = m.length := by simp [switchR]
  have h0 : (switchR m p q).getD 0 [] = swRow m p q 0 := by simp [switchR, List.getD, show 0 < m.length by omega]
  refine ⟨⟨by omega, fun r hr => ?_⟩, by omega, by rw [h0]; simp only [swRow, List.length_map, List.length_range]; omega⟩
  obtain ⟨x, hx, rfl⟩ := List.mem_map.1 hr
  have hx := List.mem_range.1 hx
  have := (g5 _ (getD_mem (d := []) hx)).1
  refine ⟨by simp only [swRow, List.length_map, List.length_range]; omega, fun v hv => ?_⟩
  obtain ⟨y, _, rfl⟩ := List.mem_map.1 hv
  exact W_inr _
theorem SmM.set {m : List (List Int)} (h : SmM m) (hl : 0 < m.length) {v : Int} (hv : InR v) : SmM (m.set 0 ((m.getD 0 []).set 0 v)) := by
  have h0 := h.2 _ (getD_mem (d := []) hl)
  refine ⟨by rw [List.length_set]; exact h.1, fun r hr => ?_⟩
  rcases List.mem_or_eq_of_mem_set hr with h1 | rfl
  · exact h.2 r h1
  · refine ⟨by rw [List.length_set]; exact h0.1, fun x hx => ?_⟩
    rcases List.mem_or_eq_of_mem_set hx with h2 | rfl
    · exact h0.2 x h2
    · exact hv

def drawnMM (x : AVal) (h : List (Nat × ARow)) : Prop := ∃ m n, SmM m ∧ SmM n ∧
  ((x = .tu [.t (.rows m), .t (.rows n)] ∧ h = []) ∨ (x = .tu [.t (.rows m), .own 0] ∧ h = [(0, .rows 34 3 true n)]))

theorem DrawAreSwitched_spec (code : List Int) (hc : OkB code) :
    FSpec Try.prog 6 [.t (.ints .u8 code)] drawnMM := by
  refine fspec tyOk mx Try.func6 rfl (by kernel_rfl) rfl ?_
  conv => whnf
  refine ACallS.tmut 0 (signs5_spec code hc 0 0 (by omega)) ?_ rfl (by (repeat' (first | exact trivial | exact rfl | refine And.intro ?_ ?_)) <;> (try first | omega | (simp; done))) (by (repeat' (first | exact trivial | exact rfl | refine And.intro ?_ ?_)) <;> (try first | omega | (simp; done)))
  rintro v r ⟨m, a1, s1, rfl, hm, e1, g1, rfl⟩
  have hm : SmM m := hm
  have okm := hm.ok
  conv => whnf
  refine ACallS.tmut 0 (ones5_spec code hc a1 s1 (by omega) m.length (by have := hm.1; omega)) ?_ rfl (by (repeat' (first | exact trivial | exact rfl | refine And.intro ?_ ?_)) <;> (try first | omega | (simp; done))) (by (repeat' (first | exact trivial | exact rfl | refine And.intro ?_ ?_)) <;> (try first | omega | (simp; done)))
  rintro v r ⟨p, a2, s2, rfl, lp, ip, e2, g2, rfl⟩
  conv => whnf
  refine ACall.use (l5Wide_spec m) ?_
  conv => whnf
  have hw := hm.wide
  refine ACallS.tmut 0 (ones5_spec code hc a2 s2 (by omega) (wide5 m) hw) ?_ rfl (by (repeat' (first | exact trivial | exact rfl | refine And.intro ?_ ?_)) <;> (try first | omega | (simp; done))) (by (repeat' (first | exact trivial | exact rfl | refine And.intro ?_ ?_)) <;> (try first | omega | (simp; done)))
  rintro v r ⟨q, a3, s3, rfl, lq, iq, e3, g3, rfl⟩
  conv => whnf
  refine ACall.use (SwitchSigns_s m okm.1 okm.2 p ⟨by omega, ip⟩ (by unfold SzI; omega) q ⟨by omega, iq⟩ (by unfold SzI; omega)) ?_
  conv => whnf
  refine ⟨fun hs => ?_, fun hs => ?_⟩
  · obtain ⟨r1, r2, r3⟩ := switchRes_sm hs
    conv => whnf
    refine ACallS.tmut 0 (one_spec code hc a3 s3 (by omega) 3 (by omega) (by omega)) ?_ rfl (by (repeat' (first | exact trivial | exact rfl | refine And.intro ?_ ?_)) <;> (try first | omega | (simp; done))) (by (repeat' (first | exact trivial | exact rfl | refine And.intro ?_ ?_)) <;> (try first | omega | (simp; done)))
    rintro v r ⟨b1, a4, s4, rfl, e_a4, g_a4, rfl⟩
    conv => whnf
    refine ⟨fun h1 => ?_, fun h1 => ?_⟩
    · conv => whnf
      refine ACallS.tmut 0 (one_spec code hc a4 s4 (by omega) 3 (by omega) (by omega)) ?_ rfl (by (repeat' (first | exact trivial | exact rfl | refine And.intro ?_ ?_)) <;> (try first | omega | (simp; done))) (by (repeat' (first | exact trivial | exact rfl | refine And.intro ?_ ?_)) <;> (try first | omega | (simp; done)))
      rintro v r ⟨b2, a5, s5, rfl, e_a5, g_a5, rfl⟩
      conv => whnf
      refine ⟨fun h2 => ?_, fun h2 => ?_⟩
      · conv => whnf
        refine ADraw.plan tyOk mx (.q 0 (.q 1 (.q 2 (.q 3 (.q 4 (.q 5 (.q 6 (.q 7 (.q 8 (.q 9 (.last 10 (.done))))))))))) : Plan) (by kernel_rfl) ?_
        conv => whnf
        refine ⟨0, rfl, r2, 0, rfl, r2, 0, rfl, r3, 0, rfl, r3, ?_⟩
        conv => whnf
        exact ⟨m, _, hm, r1.set r2 (W_inr _), .inr ⟨rfl, rfl⟩⟩
      · conv => whnf
        exact ⟨m, _, hm, r1, .inr ⟨rfl, rfl⟩⟩
    · conv => whnf
      refine ACallS.tmut 0 (signs5_spec code hc a4 s4 (by omega)) ?_ rfl (by (repeat' (first | exact trivial | exact rfl | refine And.intro ?_ ?_)) <;> (try first | omega | (simp; done))) (by (repeat' (first | exact trivial | exact rfl | refine And.intro ?_ ?_)) <;> (try first | omega | (simp; done)))
      rintro v r ⟨n, a5, s5, rfl, hn, e5, g5, rfl⟩
      conv => whnf
      exact ⟨m, n, hm, hn, .inl ⟨rfl, rfl⟩⟩
  · conv => whnf
    first | refine ⟨fun h => absurd h (by decide), fun _ => ?_⟩ | refine ⟨fun _ => ?_, fun h => absurd h (by decide)⟩
    conv => whnf
    refine ACallS.tmut 0 (signs5_spec code hc a3 s3 (by omega)) ?_ rfl (by (repeat' (first | exact trivial | exact rfl | refine And.intro ?_ ?_)) <;> (try first | omega | (simp; done))) (by (repeat' (first | exact trivial | exact rfl | refine And.intro ?_ ?_)) <;> (try first | omega | (simp; done)))
    rintro v r ⟨n, a5, s5, rfl, hn, e5, g5, rfl⟩
    conv => whnf
    exact ⟨m, n, hm, hn, .inl ⟨rfl, rfl⟩⟩
end Go.Proofs.Ytahllgjmjnipjaa
