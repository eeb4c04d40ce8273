/- Marks: what the laws write into what they were handed. -/
import Derived.Test.YtgefdbihdliolaaLeaf
import Derived.Test.YtgefdbihdliolaaAwN
namespace Go.Aw
def marks (k : Int) (n : Nat) : List Int := (List.range n).map fun i : Nat => k + (i : Int)
def marksR : Int → List (List Int) → List (List Int)
  | _, [] => []
  | k, r :: m => marks k r.length :: marksR (k + r.length) m
def tot : List (List Int) → Nat
  | [] => 0
  | r :: m => r.length + tot m
theorem marksR_length : ∀ (k : Int) (m : List (List Int)), (marksR k m).length = m.length
  | _, [] => rfl
  | k, _ :: m => by simp [marksR, marksR_length _ m]
theorem tot_append : ∀ (m m' : List (List Int)), tot (m ++ m') = tot m + tot m'
  | [], _ => by simp [tot]
  | r :: m, m' => by simp [tot, tot_append m m', Nat.add_assoc]
theorem tot_take_le : ∀ (m : List (List Int)) (i : Nat), tot (m.take i) ≤ tot m
  | [], _ => by simp [tot]
  | _ :: _, 0 => by simp [tot]
  | r :: m, i + 1 => by have := tot_take_le m i; simp [tot]; exact this
theorem tot_take_succ : ∀ (m : List (List Int)) (i : Nat), i < m.length → tot (m.take (i + 1)) = tot (m.take i) + (m.getD i []).length
  | [], _, h => by simp at h
  | r :: m, 0, _ => by simp [tot]
  | r :: m, i + 1, h => by have := tot_take_succ m i (by simpa using h); simp [tot] at this ⊢; omega
theorem marksR_append : ∀ (k : Int) (m m' : List (List Int)), marksR k (m ++ m') = marksR k m ++ marksR (k + tot m) m'
  | _, [], _ => by simp [marksR, tot]
  | k, r :: m, m' => by simp [marksR, marksR_append _ m m', tot, Int.add_assoc]
theorem marksR_take_succ (k : Int) (m : List (List Int)) (i : Nat) (h : i < m.length) : marksR k (m.take (i + 1)) = marksR k (m.take i) ++ [marks (k + tot (m.take i)) (m.getD i []).length] := by
  rw [List.take_succ_eq_append_getElem h, marksR_append]
  simp [marksR, List.getD, h]
theorem marksR_get : ∀ (k : Int) (m : List (List Int)) (i : Nat), i < m.length → (marksR k m).getD i [] = marks (k + tot (m.take i)) (m.getD i []).length
  | _, [], _, h => by simp at h
  | k, r :: m, 0, _ => by simp [marksR, tot]
  | k, r :: m, i + 1, h => by
    have := marksR_get (k + r.length) m i (by simpa using h)
    simp only [marksR, List.getD_cons_succ, List.take_succ_cons, tot]
    rw [this, Int.add_assoc]; simp
theorem marks_length (k : Int) (n : Nat) : (marks k n).length = n := by simp [marks]
theorem marks_get {k : Int} {n i : Nat} (h : i < n) : (marks k n).getD i 0 = k + i := by simp [marks, List.getD, h]
theorem tot_mem : ∀ {m : List (List Int)} {r : List Int}, r ∈ m → r.length ≤ tot m
  | [], _, h => by simp at h
  | q :: m, r, h => by
    rcases List.mem_cons.1 h with rfl | h
    · simp [tot]
    · have := tot_mem h; simp [tot]; omega
def InR (n : Int) : Prop := -9223372036854775808 ≤ n ∧ n ≤ 9223372036854775807
def OkI (l : List Int) : Prop := l.length ≤ 9223372036854775807 ∧ ∀ x, x ∈ l → InR x
def OkM (m : List (List Int)) : Prop := m.length ≤ 9223372036854775807 ∧ ∀ r, r ∈ m → OkI r
theorem OkM.len {m : List (List Int)} (h : OkM m) : ∀ r, r ∈ m → r.length ≤ 9223372036854775807 := fun r hr => (h.2 r hr).1
def SzI (l : List Int) : Prop := l.length ≤ 1048576
def SzM (m : List (List Int)) : Prop := m.length + tot m ≤ 1048576
theorem SzM.all {m : List (List Int)} (h : SzM m) : m.length ≤ 1048576 ∧ (∀ r, r ∈ m → r.length ≤ 1048576) ∧ tot m ≤ 1048576 := by
  unfold SzM at h
  exact ⟨by omega, fun r hr => by have := tot_mem hr; omega, by omega⟩
end Go.Aw
namespace Go.Proofs.Ytgefdbihdliolaa
open Go.Aw
theorem szGo_tot : ∀ {m : List (List Int)} {left : Int}, 0 ≤ szGo m left → szGo m left = left - tot m
  | [], left, _ => by simp [szGo, tot]
  | r :: m, left, h => by
    simp only [szGo] at h ⊢
    split at h
    · omega
    · rename_i hn
      rw [if_neg hn, szGo_tot h]
      simp [tot]
      omega
theorem szSS_tot {m : List (List Int)} {left : Int} (h : 0 ≤ szSS m left) : 0 ≤ szSS m left ∧ szSS m left = left - m.length - tot m := by
  refine ⟨h, ?_⟩
  unfold szSS at h ⊢
  split at h
  · omega
  · rename_i hn
    rw [if_neg hn, szGo_tot h]

theorem marks_step (l : List Int) (k : Int) (i : Nat) (h : i < l.length) : (marks k i ++ l.drop i).set i (k + i) = marks k (i + 1) ++ l.drop (i + 1) := by
  rw [List.set_append_right _ _ (by simp [marks]), marks_length, Nat.sub_self, List.drop_eq_getElem_cons h, List.set_cons_zero]
  simp [marks, List.range_succ]

theorem markIntS_spec (l : List Int) (k : Int) (h0 : 0 ≤ k) (h1 : k ≤ 4611686018427387904) (h2 : l.length ≤ 1099511627776) :
    MSpec Try.prog 69 (.ints 3 .i64 l) [.own 0, .c (.int .i64 k)] (exM (.int .i64 (k + l.length)) (.ints 3 .i64 (marks k l.length))) := by
  refine mspec tyOk mx Try.func69 rfl (by kernel_rfl) rfl (by kernel_rfl) ?_
  conv => whnf
  refine aloopI tyOk mx (fun i : Nat => (⟨19, [(0, .own 0), (1, .c (.int .i64 (k + i))), (5, .c (.int .i64 (i))), (19, .own 0)], [(0, .ints 3 .i64 (marks k i ++ l.drop i))], 1⟩ : St)) (fun i => i ≤ l.length) (fun i => l.length - i) 0 (by omega) none (by refine ⟨rfl, rfl, ?_, ?_⟩ <;> ((repeat' (first | exact trivial | exact rfl | refine And.intro ?_ ?_)) <;> (try ((conv => whnf); first | refine vint ?_ | refine vboo ?_ | refine rint ?_ | refine rrow ?_ | skip)) <;> (try first | omega | (simp; done) | ((repeat rw [flts_closed _ (by assumption)]); exact vws_closed _ (by assumption))))) (fun i hi => ?_)
  have hlen : (marks k i ++ l.drop i).length = l.length := by simp [marks]; omega
  refine ⟨fun h => ?_, fun h => ?_⟩
  · rw [hlen] at h
    have h := ltT h
    conv => whnf
    refine ⟨i, rfl, by omega, ?_⟩
    conv => whnf
    rw [marks_step _ _ _ h, w64 (by omega) (by omega), w64 (by omega) (by omega)]
    exact ⟨i + 1, none, (by refine ⟨rfl, rfl, ?_, ?_⟩ <;> ((repeat' (first | exact trivial | exact rfl | refine And.intro ?_ ?_)) <;> (try ((conv => whnf); first | refine vint ?_ | refine vboo ?_ | refine rint ?_ | refine rrow ?_ | skip)) <;> (try first | omega | (simp; done) | ((repeat rw [flts_closed _ (by assumption)]); exact vws_closed _ (by assumption))))), by omega, by omega⟩
  · rw [hlen] at h
    have h := ltF h
    obtain rfl : i = l.length := by omega
    conv => whnf
    refine ⟨rfl, ?_⟩
    rw [List.drop_length, List.append_nil]

theorem markIntSS_spec (m : List (List Int)) (k : Int) (h0 : 0 ≤ k) (h1 : k ≤ 1099511627776) (h2 : m.length ≤ 1099511627776) (h3 : tot m ≤ 1099511627776) :
    MSpec Try.prog 68 (.rows 23 3 true m) [.own 0, .c (.int .i64 k)] (exM (.int .i64 (k + tot m)) (.rows 23 3 true (marksR k m))) := by
  refine mspec tyOk mx Try.func68 rfl (by kernel_rfl) rfl (by kernel_rfl) ?_
  conv => whnf
  refine aloopI tyOk mx (fun i : Nat => (⟨19, [(0, .own 0), (1, .c (.int .i64 (k + tot (m.take i)))), (5, .c (.int .i64 (i))), (19, .own 0)], [(0, .rows 23 3 true (marksR k (m.take i) ++ m.drop i))], 1⟩ : St)) (fun i => i ≤ m.length) (fun i => m.length - i) 0 (by omega) none (by (refine ⟨rfl, rfl, ?_, ?_⟩ <;> ((repeat' (first | exact trivial | exact rfl | refine And.intro ?_ ?_)) <;> (try ((conv => whnf); first | refine vint ?_ | refine vboo ?_ | refine rint ?_ | refine rrow ?_ | skip)) <;> (try first | omega | (simp; done) | ((repeat rw [flts_closed _ (by assumption)]); exact vws_closed _ (by assumption))))); show k = k + ((tot []:Nat):Int); simp [tot]) (fun i hi => ?_)
  have hlen : (marksR k (m.take i) ++ m.drop i).length = m.length := by simp [marksR_length]; omega
  refine ⟨fun h => ?_, fun h => ?_⟩
  · rw [hlen] at h
    have h := ltT h
    have ht := tot_take_le m i
    have ht1 := tot_take_le m (i + 1)
    have ht2 := tot_take_succ m i h
    have hget : (marksR k (m.take i) ++ m.drop i).getD i [] = m.getD i [] := by
      simp [List.getD, List.getElem?_append_right, marksR_length, Nat.min_eq_left hi]
    conv => whnf
    refine ⟨i, rfl, by omega, ?_⟩
    conv => whnf
    refine ACallS.mut (.sub 0 i) (markIntS_spec (m.getD i []) (k + tot (m.take i)) (by omega) (by omega) (by omega)) ?_ (by refine ⟨⟨rfl, rfl⟩, rfl, trivial⟩) (by refine ⟨by omega, ?_⟩; rw [hget])
    have hset : (marksR k (m.take i) ++ m.drop i).set i (marks (k + tot (m.take i)) (m.getD i []).length) = marksR k (m.take (i + 1)) ++ m.drop (i + 1) := by
      rw [List.set_append_right _ _ (by simp [marksR_length]; omega), marksR_length, List.length_take, Nat.min_eq_left hi, Nat.sub_self, List.drop_eq_getElem_cons h, List.set_cons_zero, marksR_take_succ _ _ _ h]
      simp
    conv => whnf
    rw [hset, w64 (by omega) (by omega)]
    refine ⟨i + 1, none, ?_, by omega, by omega⟩
    (refine ⟨rfl, rfl, ?_, ?_⟩ <;> ((repeat' (first | exact trivial | exact rfl | refine And.intro ?_ ?_)) <;> (try ((conv => whnf); first | refine vint ?_ | refine vboo ?_ | refine rint ?_ | refine rrow ?_ | skip)) <;> (try first | omega | (simp; done) | ((repeat rw [flts_closed _ (by assumption)]); exact vws_closed _ (by assumption)))))
  · rw [hlen] at h
    have h := ltF h
    obtain rfl : i = m.length := by omega
    rw [List.take_length, List.drop_length, List.append_nil]
    conv => whnf
    exact ⟨rfl, rfl⟩

theorem heldIntS_spec (n : Nat) (k : Int) (h0 : 0 ≤ k) (h1 : k ≤ 4611686018427387904) (h2 : n ≤ 1099511627776) :
    FSpec Try.prog 71 [.t (.ints .i64 (marks k n)), .c (.int .i64 k)] (ex (.c (.int .i64 (k + n))) []) := by
  refine fspec tyOk mx Try.func71 rfl (by kernel_rfl) rfl ?_
  conv => whnf
  have hlen : (marks k n).length = n := by simp [marks]
  refine aloopI tyOk mx (fun i : Nat => (⟨21, [(0, .t (.ints .i64 (marks k n))), (1, .c (.int .i64 (k + i))), (5, .c (.int .i64 (i)))], [], 0⟩ : St)) (fun i => i ≤ n) (fun i => n - i) 0 (by omega) none (by refine ⟨rfl, rfl, ?_, ?_⟩ <;> ((repeat' (first | exact trivial | exact rfl | refine And.intro ?_ ?_)) <;> (try ((conv => whnf); first | refine vint ?_ | refine vboo ?_ | refine rint ?_ | refine rrow ?_ | skip)) <;> (try first | omega | (simp; done) | ((repeat rw [flts_closed _ (by assumption)]); exact vws_closed _ (by assumption))))) (fun i hi => ?_)
  refine ⟨fun h => ?_, fun h => ?_⟩
  · have h := ltT h
    rw [hlen] at h
    conv => whnf
    refine ⟨i, rfl, by omega, ?_⟩
    refine ⟨fun h => ?_, fun h => ?_⟩
    · rw [marks_get (by omega)] at h
      simp at h
    · conv => whnf
      rw [w64 (by omega) (by omega), w64 (by omega) (by omega)]
      exact ⟨i + 1, none, (by refine ⟨rfl, rfl, ?_, ?_⟩ <;> ((repeat' (first | exact trivial | exact rfl | refine And.intro ?_ ?_)) <;> (try ((conv => whnf); first | refine vint ?_ | refine vboo ?_ | refine rint ?_ | refine rrow ?_ | skip)) <;> (try first | omega | (simp; done) | ((repeat rw [flts_closed _ (by assumption)]); exact vws_closed _ (by assumption))))), by omega, by omega⟩
  · have h := ltF h
    rw [hlen] at h
    obtain rfl : i = n := by omega
    conv => whnf
    exact ⟨rfl, rfl⟩

theorem heldIntSS_spec (m : List (List Int)) (k : Int) (h0 : 0 ≤ k) (h1 : k ≤ 1099511627776) (h2 : m.length ≤ 1099511627776) (h3 : tot m ≤ 1099511627776) :
    FSpec Try.prog 70 [.t (.rows (marksR k m)), .c (.int .i64 k)] (ex (.c (.int .i64 (k + tot m))) []) := by
  refine fspec tyOk mx Try.func70 rfl (by kernel_rfl) rfl ?_
  conv => whnf
  refine aloopI tyOk mx (fun i : Nat => (⟨21, [(0, .t (.rows (marksR k m))), (1, .c (.int .i64 (k + tot (m.take i)))), (5, .c (.int .i64 (i)))], [], 0⟩ : St)) (fun i => i ≤ m.length) (fun i => m.length - i) 0 (by omega) none (by (refine ⟨rfl, rfl, ?_, ?_⟩ <;> ((repeat' (first | exact trivial | exact rfl | refine And.intro ?_ ?_)) <;> (try ((conv => whnf); first | refine vint ?_ | refine vboo ?_ | refine rint ?_ | refine rrow ?_ | skip)) <;> (try first | omega | (simp; done) | ((repeat rw [flts_closed _ (by assumption)]); exact vws_closed _ (by assumption))))); show k = k + ((tot []:Nat):Int); simp [tot]) (fun i hi => ?_)
  have hlen := marksR_length k m
  refine ⟨fun h => ?_, fun h => ?_⟩
  · rw [hlen] at h
    have h := ltT h
    have ht := tot_take_le m i
    have ht1 := tot_take_le m (i + 1)
    have ht2 := tot_take_succ m i h
    conv => whnf
    refine ⟨i, rfl, by omega, ?_⟩
    conv => whnf
    rw [marksR_get _ _ _ h]
    refine ACall.use (heldIntS_spec (m.getD i []).length (k + tot (m.take i)) (by omega) (by omega) (by omega)) ?_
    refine ⟨fun h => ?_, fun h => ?_⟩
    · have := of_decide_eq_true h
      omega
    · conv => whnf
      rw [w64 (by omega) (by omega)]
      refine ⟨i + 1, none, ?_, by omega, by omega⟩
      (refine ⟨rfl, rfl, ?_, ?_⟩ <;> ((repeat' (first | exact trivial | exact rfl | refine And.intro ?_ ?_)) <;> (try ((conv => whnf); first | refine vint ?_ | refine vboo ?_ | refine rint ?_ | refine rrow ?_ | skip)) <;> (try first | omega | (simp; done) | ((repeat rw [flts_closed _ (by assumption)]); exact vws_closed _ (by assumption)))))
  · rw [hlen] at h
    have h := ltF h
    obtain rfl : i = m.length := by omega
    rw [List.take_length]
    conv => whnf
    exact ⟨rfl, rfl⟩

end Go.Proofs.Ytgefdbihdliolaa
