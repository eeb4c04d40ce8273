/- Contracts of the leaves: sizes, copies, comparisons. -/
import Derived.Test.YtgefdbihdliolaaBase
namespace Go.Proofs.Ytgefdbihdliolaa
open Go.Aw

theorem getD_mem {α : Type} {l : List α} {d : α} {k : Nat} (h : k < l.length) : l.getD k d ∈ l := by
  rw [List.getD_eq_getElem?_getD, List.getElem?_eq_getElem h]; exact List.getElem_mem h

/-- the tail of a size reckoning -/
def szS (l : List Int) (left : Int) : Int := if left - l.length < 0 then -1 else left - l.length

theorem szIntS_spec (l : List Int) (left : Int) (h0 : -1 ≤ left) (h1 : left ≤ 1048576) (h2 : l.length ≤ 9223372036854775807) :
    FSpec Try.prog 57 [.t (.ints .i64 l), .c (.int .i64 left)] (ex (.c (.int .i64 (szS l left))) []) := by
  refine fspec tyOk mx Try.func57 rfl (by kernel_rfl) rfl ?_
  have e : IntKind.i64.wrap (left - l.length) = left - l.length := w64 (by omega) (by omega)
  refine ⟨fun h => ?_, fun h => ?_⟩
  · rw [e] at h
    conv => whnf
    refine ⟨?_, rfl⟩
    rw [szS, if_pos (of_decide_eq_true h)]
  · rw [e] at h
    conv => whnf
    refine ⟨?_, rfl⟩
    rw [e, szS, if_neg (of_decide_eq_false h)]

theorem eqIntS_spec (a b : List Int) (h : a.length ≤ 9223372036854775807) :
    FSpec Try.prog 21 [.t (.ints .i64 a), .t (.ints .i64 b)] (ex (.c (.bool (decide (a = b)))) []) := by
  refine fspec tyOk mx Try.func21 rfl (by kernel_rfl) rfl ?_
  refine ⟨fun hl => ?_, fun hl => ?_⟩
  · conv => whnf
    refine ⟨?_, rfl⟩
    rw [decide_eq_false]
    rintro rfl
    simp at hl
  · conv => whnf
    simp only [bne_eq_false_iff_eq, Int.natCast_inj] at hl
    refine aloopI tyOk mx (fun k : Nat => (⟨26, [(0, .t (.ints .i64 a)), (1, .t (.ints .i64 b)), (5, .c (.int .i64 (k : Int)))], [], 0⟩ : St)) (fun k => k ≤ a.length ∧ ∀ j, j < k → a[j]? = b[j]?) (fun k => a.length - k)
      0 ⟨by omega, fun j hj => by omega⟩ none (by refine ⟨rfl, rfl, ?_, ?_⟩ <;> ((repeat' (first | exact trivial | exact rfl | refine And.intro ?_ ?_)) <;> (try ((conv => whnf); first | refine vint ?_ | refine vboo ?_ | refine rint ?_ | refine rrow ?_ | skip)) <;> (try first | omega | (simp; done) | ((repeat rw [flts_closed _ (by assumption)]); exact vws_closed _ (by assumption))))) (fun k hI => ?_)
    obtain ⟨hk, hp⟩ := hI
    refine ⟨fun h => ?_, fun h => ?_⟩
    · conv => whnf
      have hk1 : k < a.length := by simpa using h
      refine ADraw.std tyOk mx ⟨by kernel_rfl, ⟨k, rfl, hk1, k, rfl, by omega, fun h => ?_, fun h => ?_⟩⟩
      · conv => whnf
        refine ⟨?_, rfl⟩
        rw [decide_eq_false]
        rintro rfl
        simp at h
      · conv => whnf
        simp only [bne_eq_false_iff_eq, List.getD_eq_getElem?_getD] at h
        rw [w64 (by omega) (by omega)]
        refine ⟨k + 1, none, (by refine ⟨rfl, rfl, ?_, ?_⟩ <;> ((repeat' (first | exact trivial | exact rfl | refine And.intro ?_ ?_)) <;> (try ((conv => whnf); first | refine vint ?_ | refine vboo ?_ | refine rint ?_ | refine rrow ?_ | skip)) <;> (try first | omega | (simp; done) | ((repeat rw [flts_closed _ (by assumption)]); exact vws_closed _ (by assumption))))), ⟨by omega, fun j hj => ?_⟩, by omega⟩
        by_cases e : j = k
        · subst e
          rw [List.getElem?_eq_getElem hk1, List.getElem?_eq_getElem (by omega)] at h ⊢
          simpa using h
        · exact hp j (by omega)
    · conv => whnf
      refine ⟨?_, rfl⟩
      rw [decide_eq_true]
      have hk1 : ¬ k < a.length := by simpa using h
      refine List.ext_getElem? (fun i => ?_)
      by_cases hi : i < k
      · exact hp i hi
      · rw [List.getElem?_eq_none (by omega), List.getElem?_eq_none (by omega)]

theorem set_take {α : Type} (l : List α) (d z : α) (k : Nat) (h : k < l.length) :
    (l.take k ++ List.replicate (l.length - k) z).set k (l.getD k d) = l.take (k + 1) ++ List.replicate (l.length - (k + 1)) z := by
  rw [List.set_append_right _ _ (by simp; omega)]
  rw [List.length_take, Nat.min_eq_left (by omega), Nat.sub_self]
  rw [show l.length - k = (l.length - (k + 1)) + 1 by omega, List.replicate_succ, List.set_cons_zero, List.take_succ_eq_append_getElem h]
  rw [List.getD_eq_getElem?_getD, List.getElem?_eq_getElem h, List.append_assoc]
  rfl

theorem toIntS_spec (l : List Int) (h : l.length ≤ 1048576) : FSpec Try.prog 18 [.t (.ints .i64 l)] (ex (.own 0) [(0, .ints 3 .i64 l)]) := by
  refine fspec tyOk mx Try.func18 rfl (by kernel_rfl) rfl ?_
  conv => whnf
  refine ⟨l.length, rfl, rfl, by unfold room; omega, ?_⟩
  conv => whnf
  refine aloopI tyOk mx (fun k : Nat => (⟨22, [(0, .t (.ints .i64 l)), (3, .own 0), (4, .c (.int .i64 (k : Int)))], [(0, .ints 3 .i64 (l.take k ++ List.replicate (l.length - k) 0))], 1⟩ : St)) (fun k => k ≤ l.length) (fun k => l.length - k)
      0 (by omega) none (by refine ⟨rfl, rfl, ?_, ?_⟩ <;> ((repeat' (first | exact trivial | exact rfl | refine And.intro ?_ ?_)) <;> (try ((conv => whnf); first | refine vint ?_ | refine vboo ?_ | refine rint ?_ | refine rrow ?_ | skip)) <;> (try first | omega | (simp; done) | ((repeat rw [flts_closed _ (by assumption)]); exact vws_closed _ (by assumption))))) (fun k hk => ?_)
  refine ⟨fun h => ?_, fun h => ?_⟩
  · conv => whnf
    have hk1 : k < l.length := by simpa using h
    refine ⟨k, rfl, hk1, k, rfl, by simp; omega, ?_⟩
    conv => whnf
    rw [w64 (by omega) (by omega), set_take _ _ _ _ hk1]
    exact ⟨k + 1, none, (by refine ⟨rfl, rfl, ?_, ?_⟩ <;> ((repeat' (first | exact trivial | exact rfl | refine And.intro ?_ ?_)) <;> (try ((conv => whnf); first | refine vint ?_ | refine vboo ?_ | refine rint ?_ | refine rrow ?_ | skip)) <;> (try first | omega | (simp; done) | ((repeat rw [flts_closed _ (by assumption)]); exact vws_closed _ (by assumption))))), by omega, by omega⟩
  · have hk1 : ¬ k < l.length := by simpa using h
    have : l.take k ++ List.replicate (l.length - k) 0 = l := by
      rw [List.take_of_length_le (by omega), show l.length - k = 0 by omega]; simp
    rw [this]
    conv => whnf
    exact ⟨rfl, rfl⟩

theorem toIntSS_spec (m : List (List Int)) (h : m.length ≤ 1048576) (hr : ∀ r, r ∈ m → r.length ≤ 1048576) :
    FSpec Try.prog 41 [.t (.rows m)] (ex (.own 0) [(0, .rows 23 3 true m)]) := by
  refine fspec tyOk mx Try.func41 rfl (by kernel_rfl) rfl ?_
  conv => whnf
  refine ⟨m.length, rfl, rfl, by unfold room; omega, ?_⟩
  conv => whnf
  refine aloopI tyOk mx (fun k : Nat => (⟨23, [(0, .t (.rows m)), (3, .own 0), (4, .c (.int .i64 (k : Int)))], [(0, .rows 23 3 true (m.take k ++ List.replicate (m.length - k) []))], 1⟩ : St)) (fun k => k ≤ m.length) (fun k => m.length - k)
      0 (by omega) none (by refine ⟨rfl, rfl, ?_, ?_⟩ <;> ((repeat' (first | exact trivial | exact rfl | refine And.intro ?_ ?_)) <;> (try ((conv => whnf); first | refine vint ?_ | refine vboo ?_ | refine rint ?_ | refine rrow ?_ | skip)) <;> (try first | omega | (simp; done) | ((repeat rw [flts_closed _ (by assumption)]); exact vws_closed _ (by assumption))))) (fun k hk => ?_)
  refine ⟨fun h => ?_, fun h => ?_⟩
  · conv => whnf
    have hk1 : k < m.length := by simpa using h
    have hkr : (m.getD k []).length ≤ 1048576 := by
      rw [List.getD_eq_getElem?_getD, List.getElem?_eq_getElem hk1]; exact hr _ (List.getElem_mem hk1)
    refine ⟨k, rfl, hk1, ?_⟩
    conv => whnf
    refine ACall.use (toIntS_spec _ hkr) ?_
    conv => whnf
    refine ⟨k, rfl, by simp; omega, ?_⟩
    conv => whnf
    rw [w64 (by omega) (by omega), set_take _ _ _ _ hk1]
    exact ⟨k + 1, none, (by refine ⟨rfl, rfl, ?_, ?_⟩ <;> ((repeat' (first | exact trivial | exact rfl | refine And.intro ?_ ?_)) <;> (try ((conv => whnf); first | refine vint ?_ | refine vboo ?_ | refine rint ?_ | refine rrow ?_ | skip)) <;> (try first | omega | (simp; done) | ((repeat rw [flts_closed _ (by assumption)]); exact vws_closed _ (by assumption))))), by omega, by omega⟩
  · have hk1 : ¬ k < m.length := by simpa using h
    have : m.take k ++ List.replicate (m.length - k) [] = m := by
      rw [List.take_of_length_le (by omega), show m.length - k = 0 by omega]; simp
    rw [this]
    conv => whnf
    exact ⟨rfl, rfl⟩

theorem eqIntSS_spec (a b : List (List Int)) (h : a.length ≤ 9223372036854775807) (hr : ∀ r, r ∈ a → r.length ≤ 9223372036854775807) :
    FSpec Try.prog 43 [.t (.rows a), .t (.rows b)] (ex (.c (.bool (decide (a = b)))) []) := by
  refine fspec tyOk mx Try.func43 rfl (by kernel_rfl) rfl ?_
  refine ⟨fun hl => ?_, fun hl => ?_⟩
  · conv => whnf
    refine ⟨?_, rfl⟩
    rw [decide_eq_false]
    rintro rfl
    simp at hl
  · conv => whnf
    simp only [bne_eq_false_iff_eq, Int.natCast_inj] at hl
    refine aloopI tyOk mx (fun k : Nat => (⟨27, [(0, .t (.rows a)), (1, .t (.rows b)), (5, .c (.int .i64 (k : Int)))], [], 0⟩ : St)) (fun k => k ≤ a.length ∧ ∀ j, j < k → a[j]? = b[j]?) (fun k => a.length - k)
      0 ⟨by omega, fun j hj => by omega⟩ none (by refine ⟨rfl, rfl, ?_, ?_⟩ <;> ((repeat' (first | exact trivial | exact rfl | refine And.intro ?_ ?_)) <;> (try ((conv => whnf); first | refine vint ?_ | refine vboo ?_ | refine rint ?_ | refine rrow ?_ | skip)) <;> (try first | omega | (simp; done) | ((repeat rw [flts_closed _ (by assumption)]); exact vws_closed _ (by assumption))))) (fun k hI => ?_)
    obtain ⟨hk, hp⟩ := hI
    refine ⟨fun h => ?_, fun h => ?_⟩
    · conv => whnf
      have hk1 : k < a.length := by simpa using h
      have hkr : (a.getD k []).length ≤ 9223372036854775807 := by
        rw [List.getD_eq_getElem?_getD, List.getElem?_eq_getElem hk1]; exact hr _ (List.getElem_mem hk1)
      refine ADraw.std tyOk mx ⟨by kernel_rfl, k, rfl, hk1, k, rfl, by omega, ?_⟩
      conv => whnf
      refine QCall.use (eqIntS_spec _ _ hkr) ?_
      conv => whnf
      refine ⟨fun h => ?_, fun h => ?_⟩
      · conv => whnf
        refine ⟨?_, rfl⟩
        rw [decide_eq_false]
        rintro rfl
        simp at h
      · conv => whnf
        simp only [Bool.not_eq_false', decide_eq_true_eq, List.getD_eq_getElem?_getD] at h
        rw [w64 (by omega) (by omega)]
        refine ⟨k + 1, none, (by refine ⟨rfl, rfl, ?_, ?_⟩ <;> ((repeat' (first | exact trivial | exact rfl | refine And.intro ?_ ?_)) <;> (try ((conv => whnf); first | refine vint ?_ | refine vboo ?_ | refine rint ?_ | refine rrow ?_ | skip)) <;> (try first | omega | (simp; done) | ((repeat rw [flts_closed _ (by assumption)]); exact vws_closed _ (by assumption))))), ⟨by omega, fun j hj => ?_⟩, by omega⟩
        by_cases e : j = k
        · subst e
          rw [List.getElem?_eq_getElem hk1, List.getElem?_eq_getElem (by omega)] at h ⊢
          simpa using h
        · exact hp j (by omega)
    · conv => whnf
      refine ⟨?_, rfl⟩
      rw [decide_eq_true]
      have hk1 : ¬ k < a.length := by simpa using h
      refine List.ext_getElem? (fun i => ?_)
      by_cases hi : i < k
      · exact hp i hi
      · rw [List.getElem?_eq_none (by omega), List.getElem?_eq_none (by omega)]

def szGo : List (List Int) → Int → Int
  | [], left => left
  | r :: m, left => if left - r.length < 0 then -1 else szGo m (left - r.length)

def szSS (m : List (List Int)) (left : Int) : Int := if left - m.length < 0 then -1 else szGo m (left - m.length)

theorem szGo_pos : ∀ (m : List (List Int)) (left : Int), 0 ≤ left → 0 ≤ szGo m left → (∀ r, r ∈ m → (r.length : Int) ≤ left) ∧ szGo m left ≤ left
  | [], left, _, _ => ⟨by simp, Int.le_refl _⟩
  | r :: m, left, h0, h => by
    simp only [szGo] at h ⊢
    split at h
    · omega
    · rename_i hn
      rw [if_neg hn]
      obtain ⟨h1, h2⟩ := szGo_pos m _ (by omega) h
      refine ⟨fun r' hr => ?_, by omega⟩
      rcases List.mem_cons.1 hr with rfl | hr
      · omega
      · have := h1 r' hr; omega

theorem szSS_pos {m : List (List Int)} {left : Int} (h : 0 ≤ szSS m left) : (m.length : Int) ≤ left ∧ (∀ r, r ∈ m → (r.length : Int) ≤ left) ∧ szSS m left ≤ left := by
  unfold szSS at h ⊢
  split at h
  · omega
  · rename_i hn
    rw [if_neg hn]
    obtain ⟨h1, h2⟩ := szGo_pos m _ (by omega) h
    exact ⟨by omega, fun r hr => by have := h1 r hr; omega, by omega⟩

theorem szIntSS_spec (m : List (List Int)) (left : Int) (h0 : -1 ≤ left) (h1 : left ≤ 1048576) (h2 : m.length ≤ 9223372036854775807) (h3 : ∀ r, r ∈ m → r.length ≤ 9223372036854775807) :
    FSpec Try.prog 39 [.t (.rows m), .c (.int .i64 left)] (ex (.c (.int .i64 (szSS m left))) []) := by
  refine fspec tyOk mx Try.func39 rfl (by kernel_rfl) rfl ?_
  have e : IntKind.i64.wrap (left - m.length) = left - m.length := w64 (by omega) (by omega)
  refine ⟨fun h => ?_, fun h => ?_⟩
  · rw [e] at h
    conv => whnf
    refine ⟨?_, rfl⟩
    rw [szSS, if_pos (of_decide_eq_true h)]
  · rw [e] at h
    have h' := of_decide_eq_false h
    have e2 : szSS m left = szGo m (left - m.length) := by rw [szSS, if_neg h']
    rw [e2]
    conv => whnf
    rw [e]
    refine aloopI tyOk mx (fun p : Nat × Int => (⟨27, [(0, .t (.rows m)), (1, .c (.int .i64 p.2)), (5, .c (.int .i64 (p.1 : Int)))], [], 0⟩ : St)) (fun p => p.1 ≤ m.length ∧ 0 ≤ p.2 ∧ p.2 ≤ 1048576 ∧ szGo m (left - m.length) = szGo (m.drop p.1) p.2) (fun p => m.length - p.1)
      (0, left - m.length) ⟨by simp, by simp; omega, by simp; omega, by simp⟩ none (by refine ⟨rfl, rfl, ?_, ?_⟩ <;> ((repeat' (first | exact trivial | exact rfl | refine And.intro ?_ ?_)) <;> (try ((conv => whnf); first | refine vint ?_ | refine vboo ?_ | refine rint ?_ | refine rrow ?_ | skip)) <;> (try first | omega | (simp; done) | ((repeat rw [flts_closed _ (by assumption)]); exact vws_closed _ (by assumption))))) (fun p hI => ?_)
    obtain ⟨k, x⟩ := p
    obtain ⟨hk, hx0, hx1, hs⟩ := hI
    simp only at hk hx0 hx1 hs
    refine ⟨fun h => ?_, fun h => ?_⟩
    · have hk1 : k < m.length := by simpa using h
      conv => whnf
      refine ⟨k, rfl, hk1, ?_⟩
      conv => whnf
      have hd : m.drop k = m.getD k [] :: m.drop (k + 1) := by
        rw [List.drop_eq_getElem_cons hk1, List.getD_eq_getElem?_getD, List.getElem?_eq_getElem hk1]; rfl
      rw [hd, szGo] at hs
      refine ACall.use (szIntS_spec _ _ (by omega) hx1 (h3 _ (getD_mem hk1))) ?_
      refine ⟨fun h => ?_, fun h => ?_⟩
      · have h4 := of_decide_eq_true h
        conv => whnf
        refine ⟨?_, rfl⟩
        unfold szS at h4
        split at h4
        · rename_i h5; rw [hs, if_pos h5]
        · omega
      · have h4 := of_decide_eq_false h
        conv => whnf
        unfold szS at h4 ⊢
        split at h4
        · omega
        · rename_i h5
          rw [if_neg h5] at hs ⊢
          rw [w64 (by omega) (by omega)]
          exact ⟨(k + 1, x - (m.getD k []).length), none, (by refine ⟨rfl, rfl, ?_, ?_⟩ <;> ((repeat' (first | exact trivial | exact rfl | refine And.intro ?_ ?_)) <;> (try ((conv => whnf); first | refine vint ?_ | refine vboo ?_ | refine rint ?_ | refine rrow ?_ | skip)) <;> (try first | omega | (simp; done) | ((repeat rw [flts_closed _ (by assumption)]); exact vws_closed _ (by assumption))))), ⟨hk1, by simp only; omega, by simp only; omega, hs⟩, by simp only; omega⟩
    · have hk1 : ¬ k < m.length := by simpa using h
      rw [List.drop_eq_nil_of_le (by omega), szGo] at hs
      conv => whnf
      refine ⟨?_, rfl⟩
      rw [hs]

end Go.Proofs.Ytgefdbihdliolaa
