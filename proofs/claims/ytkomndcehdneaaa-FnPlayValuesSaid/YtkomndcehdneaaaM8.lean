/- Draws of boxes. -/
import Derived.Test.YtkomndcehdneaaaM7
import Derived.Test.YtkomndcehdneaaaM5
namespace Go.Proofs.Ytkomndcehdneaaa
open Go.Aw
set_option maxRecDepth 100000
set_option maxHeartbeats 4000000

/-- a drawn box, of the function's own -/
def boxO (code : List Int) (a k : Nat) (x y : Int) (n : Nat) : AVal → List (Nat × ARow) → ARow → Prop := fun v h r =>
  ∃ (z : Int) (m : List (List Int)) (a' : Nat) (s' : Int), InR z ∧ m.length = n ∧ R4 m ∧ v = .ag [.c (.int .i64 x), .c (.int .i64 y), .c (.int .i64 z), .own 0] ∧ h = [(0, .rows 25 3 true m)] ∧ a ≤ a' ∧ a' ≤ a + k ∧ r = cur code a' s'
abbrev b0 : ARow := .cells 53 [.c (.int .i64 (0)), .c (.int .i64 (0)), .c (.int .i64 (0)), .c (.slice none 0 0)]

theorem someBox_spec (code : List Int) (hc : OkB code) (a : Nat) (s : Int) (ha : a ≤ 700000000) (x y : Int) :
    OSpec Try.prog 220 (cur code a s) [.ptr 0 0, .c (.int .i64 (x)), .c (.int .i64 (y))] (boxO code a 1000 x y (near x * near y)) := by
  have nx := near_le x
  have ny := near_le y
  have nxy : near x * near y ≤ 4 * 4 := Nat.mul_le_mul nx ny
  generalize hN : near x * near y = N at nxy
  have eN : IntKind.i64.wrap ((near x : Int) * (near y : Int)) = (N : Int) := by rw [← Int.natCast_mul, hN]; exact w64 (by omega) (by omega)
  refine ospec tyOk mx Try.func220 rfl (by kernel_rfl) rfl rfl ?_
  conv => whnf
  refine ACallS.inline tyOk mx Try.func116 rfl (by kernel_rfl) rfl ?_
  conv => whnf
  refine ACallS.tmut 0 (pick_spec code hc a s (by omega) 6 (by omega) (by omega)) ?_ rfl (by (repeat' (first | exact trivial | exact rfl | refine And.intro ?_ ?_)) <;> (try first | omega | (simp; done))) (by (repeat' (first | exact trivial | exact rfl | refine And.intro ?_ ?_)) <;> (try first | omega | (simp; done)))
  rintro v r ⟨y, a1, s1, rfl, y0, y1, e_a1, g_a1, rfl⟩
  conv => whnf
  obtain ⟨i, rfl, hi⟩ := nat_of (len := 6) y0 (by omega)
  refine ⟨i, rfl, hi, ?_⟩
  conv => whnf
  have h_w : 1 ≤ (((((((List.replicate 6 (0 : Int)).set 0 4).set 1 2).set 2 6).set 3 1).set 4 8).set 5 12).getD i 0 ∧ (((((((List.replicate 6 (0 : Int)).set 0 4).set 1 2).set 2 6).set 3 1).set 4 8).set 5 12).getD i 0 ≤ 12 := among_in (by kernel_rfl) hi
  generalize (((((((List.replicate 6 (0 : Int)).set 0 4).set 1 2).set 2 6).set 3 1).set 4 8).set 5 12).getD i 0 = w at h_w ⊢
  refine ⟨rfl, ?_⟩
  conv => whnf
  clear y0 y1 hi
  refine aloopI tyOk mx (fun i : List (List Int) × Nat × Int => (⟨58, [(0, .ptr 0 0), (1, .c (.int .i64 (x))), (2, .c (.int .i64 (y))), (6, .ptr 1 0), (7, .ptr 2 0), (8, .c (.int .i64 (i.1.length))), (58, .ptr 0 0)], [(0, cur code i.2.1 i.2.2), (1, b0), (2, .cells 53 [.c (.int .i64 (x)), .c (.int .i64 (y)), .c (.int .i64 (w)), .own 3]), (3, .rows 25 3 true i.1)], 4⟩ : St)) (fun i => i.1.length ≤ N ∧ R4 i.1 ∧ a ≤ i.2.1 ∧ i.2.1 ≤ a + 2 + 48 * i.1.length) (fun i => N - i.1.length) ([], a1, s1) ⟨by simp, R4.nil, by simp only; omega, by simp; omega⟩ (some [(0,.row 0),(1,.row 1),(2,.row 3),(3,.nil)]) (by (refine ⟨rfl, rfl, ?_, ?_⟩ <;> ((repeat' (first | exact trivial | exact rfl | refine And.intro ?_ ?_)) <;> (try ((conv => whnf); first | refine vint ?_ | refine vboo ?_ | refine rint ?_ | refine rrow ?_ | skip)) <;> (try first | omega | (simp; done) | ((repeat rw [flts_closed _ (by assumption)]); exact vws_closed _ (by assumption)))))) (fun i hi => ?_)
  obtain ⟨m, a2, s2⟩ := i
  obtain ⟨h1, h2, h3, h4⟩ := hi
  simp only at h1 h2 h3 h4
  dsimp only
  conv => whnf
  refine ACall.use (l2Near_spec _) ?_
  conv => whnf
  refine ACall.use (l2Near_spec _) ?_
  conv => whnf
  rw [eN]
  refine ⟨fun h => ?_, fun h => ?_⟩
  · have h := ltT h
    conv => whnf
    refine ADraw.plan tyOk mx (.q 1 (.q 2 (.last 0 (.q 3 (.q 4 (.done))))) : Plan) (by kernel_rfl) ?_
    conv => whnf
    repeat' (first | (refine And.intro ?_ ?_ <;> (conv => whnf)) | (refine ⟨4, rfl, rfl, by simp [room], ?_⟩; conv => whnf))
    all_goals
      refine aloopI tyOk mx (fun j : Int × List Int × Nat × Int => (⟨58, [(0, .ptr 0 0), (1, .c (.int .i64 (x))), (2, .c (.int .i64 (y))), (6, .ptr 1 0), (7, .ptr 2 0), (8, .c (.int .i64 (m.length))), (9, .own 4), (10, .c (.int .i64 (j.1))), (58, .ptr 0 0)], [(0, cur code j.2.2.1 j.2.2.2), (1, b0), (2, .cells 53 [.c (.int .i64 (x)), .c (.int .i64 (y)), .c (.int .i64 (w)), .own 3]), (3, .rows 25 3 true m), (4, .ints 3 .i64 j.2.1)], 5⟩ : St)) (fun j => 0 ≤ j.1 ∧ j.1 ≤ w ∧ (j.2.1.length = 4 ∧ ∀ v, v ∈ j.2.1 → InR v) ∧ a2 ≤ j.2.2.1 ∧ (j.2.2.1 : Int) + 4 * j.1 ≤ a2 + 4 * w) (fun j => j.1.toNat) (w, List.replicate 4 0, a2, s2) ⟨by simp only; omega, by simp only; omega, rep4, by simp only; omega, by simp only; omega⟩ none (by refine ⟨rfl, rfl, ?_, ?_⟩ <;> ((repeat' (first | exact trivial | exact rfl | refine And.intro ?_ ?_)) <;> (try ((conv => whnf); first | refine vint ?_ | refine vboo ?_ | refine rint ?_ | refine rrow ?_ | skip)) <;> (try first | omega | (simp; done) | ((repeat rw [flts_closed _ (by assumption)]); exact vws_closed _ (by assumption))))) (fun j hj => ?_)
      obtain ⟨left, r, a3, s3⟩ := j
      obtain ⟨j1, j2, j3, j4, j5⟩ := hj
      simp only at j1 j2 j3 j4 j5
      dsimp only
      conv => whnf
      refine ⟨fun h5 => ?_, fun h5 => ?_⟩
      · have h5 := of_decide_eq_true h5
        conv => whnf
        refine ACallS.tmut 0 (pick_spec code hc a3 s3 (by omega) left (by omega) (by omega)) ?_ rfl (by (repeat' (first | exact trivial | exact rfl | refine And.intro ?_ ?_)) <;> (try first | omega | (simp; done))) (by (repeat' (first | exact trivial | exact rfl | refine And.intro ?_ ?_)) <;> (try first | omega | (simp; done)))
        rintro v r ⟨u, a4, s4, rfl, l_u, u_u, e_a4, g_a4, rfl⟩
        conv => whnf
        refine ACallS.tmut 0 (pick_spec code hc a4 s4 (by omega) 4 (by omega) (by omega)) ?_ rfl (by (repeat' (first | exact trivial | exact rfl | refine And.intro ?_ ?_)) <;> (try first | omega | (simp; done))) (by (repeat' (first | exact trivial | exact rfl | refine And.intro ?_ ?_)) <;> (try first | omega | (simp; done)))
        rintro v r ⟨k, a5, s5, rfl, l_k, u_k, e_a5, g_a5, rfl⟩
        conv => whnf
        obtain ⟨q, rfl, hq⟩ := nat_of (len := 4) l_k (by omega)
        have e1 : IntKind.i64.wrap (1 + u) = 1 + u := w64 (by omega) (by omega)
        have e2 : IntKind.i64.wrap (left - (1 + u)) = left - (1 + u) := w64 (by omega) (by omega)
        refine ⟨q, rfl, by omega, ?_⟩
        conv => whnf
        refine ⟨q, rfl, by omega, ?_⟩
        conv => whnf
        rw [e1, e2]
        exact ⟨(left - (1 + u), r.set q _, a5, s5), none, (by refine ⟨rfl, rfl, ?_, ?_⟩ <;> ((repeat' (first | exact trivial | exact rfl | refine And.intro ?_ ?_)) <;> (try ((conv => whnf); first | refine vint ?_ | refine vboo ?_ | refine rint ?_ | refine rrow ?_ | skip)) <;> (try first | omega | (simp; done) | ((repeat rw [flts_closed _ (by assumption)]); exact vws_closed _ (by assumption))))), ⟨by simp only; omega, by simp only; omega, set4 j3 _ (W_inr _), by simp only; omega, by simp only; omega⟩, by simp only; omega⟩
      · have h5 := of_decide_eq_false h5
        conv => whnf
        refine ⟨by simp [room]; omega, ?_⟩
        conv => whnf
        rw [nat_wrap (by omega)]
        exact ⟨(m ++ [r], a3, s3), none, (by refine ⟨rfl, rfl, ?_, ?_⟩ <;> ((repeat' (first | exact trivial | exact rfl | refine And.intro ?_ ?_)) <;> (try ((conv => whnf); first | refine vint ?_ | refine vboo ?_ | refine rint ?_ | refine rrow ?_ | skip)) <;> (try first | omega | (simp; done) | ((repeat rw [flts_closed _ (by assumption)]); exact vws_closed _ (by assumption))))), ⟨by simp only [List.length_append, List.length_singleton]; omega, R4.app h2 j3, by simp only; omega, by simp only [List.length_append, List.length_singleton]; omega⟩, by simp only [List.length_append, List.length_singleton]; omega⟩
  · have h := ltF h
    conv => whnf
    exact ⟨w, m, a2, s2, by unfold InR; omega, by omega, h2, rfl, rfl, h3, by omega, rfl⟩
end Go.Proofs.Ytkomndcehdneaaa
/- Calls of cursor methods in plans: the contract's arguments are the call's. -/
namespace Go.Aw
open Go.RowKit
section
variable {P : Program} {st : St}
/-- a number -/
theorem ACallS.tmutI {f : FuncId} {n : Int} {r0 : ARow} {K : AVal → St → Prop} {post : AVal → ARow → Prop} (hs : TSpec P f r0 [.ptr 0 0, .c (.int .i64 n)] post)
    (hk : ∀ x r', post x r' → K x ((st.killSub 0).upd 0 r')) (hlk : look st.hp 0 = some r0) (hr : rowVw st.hp [(0, .row 0)] 1 (.row 0) r0)
    (ht : tRow r0 = true := by rfl) : ACallS P st f [.ptr 0 0, .c (.int .i64 n)] K := ACallS.tmut 0 hs hk hlk ⟨⟨rfl, rfl, rfl⟩, rfl, trivial⟩ hr rfl ht

/-- a list -/
theorem ACallS.tmutL {f : FuncId} {k : IntKind} {l : List Int} {r0 : ARow} {K : AVal → St → Prop} {post : AVal → ARow → Prop} (hs : TSpec P f r0 [.ptr 0 0, .t (.ints k l)] post)
    (hk : ∀ x r', post x r' → K x ((st.killSub 0).upd 0 r')) (hlk : look st.hp 0 = some r0) (hr : rowVw st.hp [(0, .row 0)] 1 (.row 0) r0)
    (ht : tRow r0 = true := by rfl) : ACallS P st f [.ptr 0 0, .t (.ints k l)] K := ACallS.tmut 0 hs hk hlk ⟨⟨rfl, rfl, rfl⟩, rfl, trivial⟩ hr rfl ht

/-- an empty slice, told as no rows -/
theorem rep_nilR {w : World} {bad : Nat → Prop} {hp : List (Nat × ARow)} {nx : Nat} {η : Env} {v : Value} (h : VRep w bad hp nx η (.c (.slice none 0 0)) v) : VRep w bad hp nx η (.t (.rows [])) v := by
  obtain ⟨rfl, _⟩ := h
  exact ⟨none, 0, rfl, Nat.le_refl _, Nat.zero_le _, fun i l hi => by simp at hi⟩

/-- a result that is told otherwise -/
theorem TSpec.tell {f : FuncId} {r0 : ARow} {args : List AVal} {post post' : AVal → ARow → Prop} (hs : TSpec P f r0 args post)
    (hv : ∀ x r, shut x = true → post x r → ∃ x', shut x' = true ∧ post' x' r ∧ ∀ w bad v, VRep w bad [] 0 η0 x v → VRep w bad [] 0 η0 x' v) : TSpec P f r0 args post' := by
  refine ⟨hs.1, fun w B ob η vs h1 h2 h3 h4 h5 => (hs.2 w B ob η vs h1 h2 h3 h4 h5).mono ?_⟩
  rintro e w' ⟨v, x, r', η', he, hvx, hsh, hpo, hrest⟩
  obtain ⟨x', k1, k2, k3⟩ := hv x r' hsh hpo
  exact ⟨v, x', r', η', he, k3 _ _ _ hvx, k1, k2, hrest⟩
end
end Go.Aw
