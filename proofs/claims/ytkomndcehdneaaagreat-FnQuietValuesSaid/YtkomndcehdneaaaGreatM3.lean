/- Which games are valid: reference and program. -/
import Derived.Test.YtkomndcehdneaaaGreatM2
namespace Go.Proofs.YtkomndcehdneaaaGreat
open Go.Aw
set_option maxRecDepth 100000
set_option maxHeartbeats 4000000

def winOk (r : List Int) : Bool := decide (r.length = 4) && rowIn r 0 1
def goodG (x y : Int) (s : List Int) (m : List (List Int)) : Bool :=
  szOk x y && decide ((s.length : Int) = x * y) && decide ((m.length : Int) = x * y) && rowIn s 0 99 && decide (0 < sumF s s.length) && m.all winOk

theorem goodG_spec {x y : Int} {s : List Int} {m : List (List Int)} (h : goodG x y s m = true) : ∃ a b : Nat, x = a ∧ y = b ∧ 1 ≤ a ∧ a ≤ 3 ∧ 1 ≤ b ∧ b ≤ 3 ∧ s.length = a * b ∧ m.length = a * b ∧ a * b ≤ 9 ∧
    (∀ v, v ∈ s → 0 ≤ v ∧ v ≤ 99) ∧ 0 < sumF s s.length ∧ (∀ r, r ∈ m → r.length = 4 ∧ ∀ v, v ∈ r → 0 ≤ v ∧ v ≤ 1) := by
  simp only [goodG, Bool.and_eq_true, decide_eq_true_eq, List.all_eq_true, winOk, rowIn_iff] at h
  obtain ⟨⟨⟨⟨⟨h1, h2⟩, h3⟩, h4⟩, h5⟩, h6⟩ := h
  obtain ⟨a, b, rfl, rfl, g1, g2, g3, g4, g5, g6⟩ := szOk_nat h1
  rw [g5] at h2 h3
  exact ⟨a, b, rfl, rfl, g1, g2, g3, g4, by omega, by omega, g6, h4, h5, h6⟩

theorem l4Game_spec (x y : Int) (s : List Int) (m : List (List Int)) (ks : SzI s) (km : SzM m) :
    FSpec Tryz.prog 166 [.ag [.c (.int .i64 x), .c (.int .i64 y), .t (.ints .i64 s), .t (.rows m)]] (ex (.c (.bool (goodG x y s m))) []) := by
  obtain ⟨i, j, z⟩ := km.all
  have ks' : s.length ≤ 1048576 := ks
  refine fspec tyOk mx Tryz.func166 rfl (by kernel_rfl) rfl ?_
  conv => whnf
  refine ACall.use (l2Sizes_spec _ _) ?_
  conv => whnf
  refine ⟨fun h1 => ?_, fun h1 => ?_⟩
  · have h1 : szOk x y = true := by simpa using h1
    conv => whnf
    refine ⟨fun h2 => ?_, fun h2 => ?_⟩
    · rw [szOk_mul h1] at h2
      have h2 : (s.length : Int) = x * y := by simpa using h2
      conv => whnf
      refine ⟨fun h3 => ?_, fun h3 => ?_⟩
      · rw [szOk_mul h1] at h3
        have h3 : ¬ (m.length : Int) = x * y := by simpa using h3
        conv => whnf
        exact ⟨by rw [goodG, decide_eq_false h3]; simp, rfl⟩
      · rw [szOk_mul h1] at h3
        have h3 : (m.length : Int) = x * y := by simpa using h3
        have hsm : m.length = s.length := by omega
        have hsl : s.length ≤ 9 := by obtain ⟨a, b, _, _, _, _, _, _, h5, h6⟩ := szOk_nat h1; omega
        conv => whnf
        refine aloopI tyOk mx (fun k : Nat => (⟨65, [(1, .ptr 0 0), (3, .c (.int .i64 (sumF s k))), (4, .c (.int .i64 (k)))], [(0, .cells 41 [.c (.int .i64 (x)), .c (.int .i64 (y)), .t (.ints .i64 s), .t (.rows m)])], 1⟩ : St)) (fun k => k ≤ s.length ∧ (s.take k).all (fun x => inR x 0 99) = true ∧ (m.take k).all winOk = true) (fun k => s.length - k) 0 ⟨Nat.zero_le _, rfl, rfl⟩ none (by refine ⟨rfl, rfl, ?_, ?_⟩ <;> ((repeat' (first | exact trivial | exact rfl | refine And.intro ?_ ?_)) <;> (try ((conv => whnf); first | refine vint ?_ | refine vboo ?_ | refine rint ?_ | refine rrow ?_ | skip)) <;> (try first | omega | (simp; done) | ((repeat rw [flts_closed _ (by assumption)]); exact vws_closed _ (by assumption))))) (fun k hI => ?_)
        obtain ⟨hk, hp, hq⟩ := hI
        refine ⟨fun h => ?_, fun h => ?_⟩
        · have h := ltT h
          have hm' : k < m.length := by omega
          conv => whnf
          refine ⟨k, rfl, h, ?_⟩
          conv => whnf
          refine ACall.use (l1In_spec _ _ _) ?_
          conv => whnf
          refine ⟨fun h4 => ?_, fun h4 => ?_⟩
          · have h4 : inR (s.getD k 0) 0 99 = true := by simpa using h4
            conv => whnf
            refine ⟨k, rfl, hm', ?_⟩
            conv => whnf
            refine ACall.use (l2Bits_spec (m.getD k []) 4 (by have := j _ (getD_mem (d := []) hm'); omega)) ?_
            conv => whnf
            have e4 : (rowIn (m.getD k []) 0 1 && decide (((m.getD k []).length : Int) = 4)) = winOk (m.getD k []) := by
              rw [winOk, Bool.and_comm]; congr 1; exact decide_eq_decide.2 (by omega)
            refine ⟨fun h5 => ?_, fun h5 => ?_⟩
            · rw [e4] at h5
              conv => whnf
              exact ⟨by rw [goodG, all_false (d := []) hm' (by simpa using h5), Bool.and_false], rfl⟩
            · rw [e4] at h5
              conv => whnf
              refine ⟨k, rfl, h, ?_⟩
              conv => whnf
              rw [nat_wrap (by omega)]
              exact ⟨k + 1, none, (by refine ⟨rfl, rfl, ?_, ?_⟩ <;> ((repeat' (first | exact trivial | exact rfl | refine And.intro ?_ ?_)) <;> (try ((conv => whnf); first | refine vint ?_ | refine vboo ?_ | refine rint ?_ | refine rrow ?_ | skip)) <;> (try first | omega | (simp; done) | ((repeat rw [flts_closed _ (by assumption)]); exact vws_closed _ (by assumption))))), ⟨by omega, all_take_succ (d := 0) h hp h4, all_take_succ (d := []) hm' hq (by simpa using h5)⟩, by omega⟩
          · have h4 : inR (s.getD k 0) 0 99 = false := by simpa using h4
            (repeat (conv => whnf); (first | refine ⟨fun h => absurd h (by decide), fun _ => ?_⟩ | refine ⟨fun _ => ?_, fun h => absurd h (by decide)⟩)); conv => whnf
            exact ⟨by rw [goodG, rowIn, all_false (d := 0) h h4]; simp, rfl⟩
        · have h := ltF h
          have hs := all_end h hp
          have hm2 := all_end (by omega) hq
          obtain rfl : k = s.length := by omega
          conv => whnf
          refine ⟨?_, rfl⟩
          rw [goodG, h1, decide_eq_true h2, decide_eq_true h3, hm2, rowIn, hs]
          simp
    · rw [szOk_mul h1] at h2
      have h2 : ¬ (s.length : Int) = x * y := by simpa using h2
      (repeat (conv => whnf); (first | refine ⟨fun h => absurd h (by decide), fun _ => ?_⟩ | refine ⟨fun _ => ?_, fun h => absurd h (by decide)⟩)); conv => whnf
      exact ⟨by rw [goodG, decide_eq_false h2]; simp, rfl⟩
  · have h1 : szOk x y = false := by simpa using h1
    (repeat (conv => whnf); (first | refine ⟨fun h => absurd h (by decide), fun _ => ?_⟩ | refine ⟨fun _ => ?_, fun h => absurd h (by decide)⟩)); conv => whnf
    exact ⟨by rw [goodG, h1]; simp, rfl⟩

theorem iIsGame_spec (x y : Int) (s : List Int) (m : List (List Int)) (ks : SzI s) (km : SzM m) :
    FSpec Tryz.prog 90 [.ag [.c (.int .i64 x), .c (.int .i64 y), .t (.ints .i64 s), .t (.rows m)]] (ex (.c (.bool (goodG x y s m))) []) := by
  obtain ⟨i, j, z⟩ := km.all
  have ks' : s.length ≤ 1048576 := ks
  refine fspec tyOk mx Tryz.func90 rfl (by kernel_rfl) rfl ?_
  conv => whnf
  refine ACall.use (areQuestions_spec _ _) ?_
  conv => whnf
  refine ⟨fun h1 => ?_, fun h1 => ?_⟩
  · have h1 : szOk x y = true := by simpa using h1
    conv => whnf
    refine ⟨fun h2 => ?_, fun h2 => ?_⟩
    · rw [szOk_mul h1] at h2
      have h2 : (s.length : Int) = x * y := by simpa using h2
      have hsl : s.length ≤ 9 := by obtain ⟨a, b, _, _, _, _, _, _, h5, h6⟩ := szOk_nat h1; omega
      conv => whnf
      refine ACall.use (allWithin_spec s _ _ (by omega)) ?_
      conv => whnf
      refine ⟨fun h4 => ?_, fun h4 => ?_⟩
      · have h4 : rowIn s 0 99 = true := by simpa using h4
        have hbd := sumF_bd (rowIn_iff.1 h4) (by omega) s.length (Nat.le_refl _)
        conv => whnf
        refine ACall.use (total_spec s ks') ?_
        conv => whnf
        refine ⟨fun h5 => ?_, fun h5 => ?_⟩
        · have h5 : 0 < sumF s s.length := by simp at h5; omega
          conv => whnf
          refine ⟨fun h3 => ?_, fun h3 => ?_⟩
          · rw [szOk_mul h1] at h3
            have h3 : ¬ (m.length : Int) = x * y := by simpa using h3
            conv => whnf
            exact ⟨by rw [goodG, decide_eq_false h3]; simp, rfl⟩
          · rw [szOk_mul h1] at h3
            have h3 : (m.length : Int) = x * y := by simpa using h3
            conv => whnf
            refine aloopI tyOk mx (fun k : Nat => (⟨59, [(1, .ptr 0 0), (44, .t (.rows m)), (45, .c (.int .i64 (m.length))), (46, .c (.int .i64 (k)))], [(0, .cells 41 [.c (.int .i64 (x)), .c (.int .i64 (y)), .t (.ints .i64 s), .t (.rows m)])], 1⟩ : St)) (fun k => k ≤ m.length ∧ (m.take k).all winOk = true) (fun k => m.length - k) 0 ⟨Nat.zero_le _, rfl⟩ none (by refine ⟨rfl, rfl, ?_, ?_⟩ <;> ((repeat' (first | exact trivial | exact rfl | refine And.intro ?_ ?_)) <;> (try ((conv => whnf); first | refine vint ?_ | refine vboo ?_ | refine rint ?_ | refine rrow ?_ | skip)) <;> (try first | omega | (simp; done) | ((repeat rw [flts_closed _ (by assumption)]); exact vws_closed _ (by assumption))))) (fun k hI => ?_)
            obtain ⟨hk, hp⟩ := hI
            refine ⟨fun h => ?_, fun h => ?_⟩
            · have h := ltT h
              conv => whnf
              refine ⟨k, rfl, h, ?_⟩
              conv => whnf
              refine ⟨fun h6 => ?_, fun h6 => ?_⟩
              · have h6 : (m.getD k []).length = 4 := by rw [bne_eq_false_iff_eq] at h6; omega
                conv => whnf
                refine ACall.use (allWithin_spec (m.getD k []) _ _ (by omega)) ?_
                conv => whnf
                refine ⟨fun h7 => ?_, fun h7 => ?_⟩
                · have h7 : rowIn (m.getD k []) 0 1 = false := by simpa using h7
                  conv => whnf
                  exact ⟨by rw [goodG, all_false (d := []) h (by rw [winOk, h7, Bool.and_false]), Bool.and_false], rfl⟩
                · have h7 : rowIn (m.getD k []) 0 1 = true := by simpa using h7
                  conv => whnf
                  rw [nat_wrap (by omega)]
                  exact ⟨k + 1, none, (by refine ⟨rfl, rfl, ?_, ?_⟩ <;> ((repeat' (first | exact trivial | exact rfl | refine And.intro ?_ ?_)) <;> (try ((conv => whnf); first | refine vint ?_ | refine vboo ?_ | refine rint ?_ | refine rrow ?_ | skip)) <;> (try first | omega | (simp; done) | ((repeat rw [flts_closed _ (by assumption)]); exact vws_closed _ (by assumption))))), ⟨by omega, all_take_succ (d := []) h hp (by rw [winOk, h7, h6]; rfl)⟩, by omega⟩
              · have h6 : ¬ (m.getD k []).length = 4 := by rw [bne_iff_ne] at h6; omega
                (repeat (conv => whnf); (first | refine ⟨fun h => absurd h (by decide), fun _ => ?_⟩ | refine ⟨fun _ => ?_, fun h => absurd h (by decide)⟩)); conv => whnf
                exact ⟨by rw [goodG, all_false (d := []) h (by rw [winOk, decide_eq_false h6, Bool.false_and]), Bool.and_false], rfl⟩
            · have h := ltF h
              have hm2 := all_end h hp
              conv => whnf
              refine ⟨?_, rfl⟩
              rw [goodG, h1, decide_eq_true h2, decide_eq_true h3, hm2, h4, decide_eq_true h5]
              rfl
        · have h5 : ¬ 0 < sumF s s.length := by simp at h5; omega
          (repeat (conv => whnf); (first | refine ⟨fun h => absurd h (by decide), fun _ => ?_⟩ | refine ⟨fun _ => ?_, fun h => absurd h (by decide)⟩)); conv => whnf
          exact ⟨by rw [goodG, decide_eq_false h5]; simp, rfl⟩
      · have h4 : rowIn s 0 99 = false := by simpa using h4
        (repeat (conv => whnf); (first | refine ⟨fun h => absurd h (by decide), fun _ => ?_⟩ | refine ⟨fun _ => ?_, fun h => absurd h (by decide)⟩)); conv => whnf
        exact ⟨by rw [goodG, h4]; simp, rfl⟩
    · rw [szOk_mul h1] at h2
      have h2 : ¬ (s.length : Int) = x * y := by simpa using h2
      (repeat (conv => whnf); (first | refine ⟨fun h => absurd h (by decide), fun _ => ?_⟩ | refine ⟨fun _ => ?_, fun h => absurd h (by decide)⟩)); conv => whnf
      exact ⟨by rw [goodG, decide_eq_false h2]; simp, rfl⟩
  · have h1 : szOk x y = false := by simpa using h1
    (repeat (conv => whnf); (first | refine ⟨fun h => absurd h (by decide), fun _ => ?_⟩ | refine ⟨fun _ => ?_, fun h => absurd h (by decide)⟩)); conv => whnf
    exact ⟨by rw [goodG, h1]; simp, rfl⟩
end Go.Proofs.YtkomndcehdneaaaGreat
/- Scores of plays: reference and program. -/
namespace Go.Aw
def bitIx (p : List Int) (n i k : Nat) : Nat := (2 * p.getD i 0 + p.getD (n + k) 0).toNat
theorem bits_mem {p : List Int} (h : ∀ v, v ∈ p → 0 ≤ v ∧ v ≤ 1) {i : Nat} : 0 ≤ p.getD i 0 ∧ p.getD i 0 ≤ 1 := by
  by_cases hi : i < p.length
  · exact h _ (by rw [List.getD_eq_getElem?_getD, List.getElem?_eq_getElem hi]; exact List.getElem_mem _)
  · rw [List.getD_eq_getElem?_getD, List.getElem?_eq_none (by omega)]; simp
theorem bitIx_eq {p : List Int} (h : ∀ v, v ∈ p → 0 ≤ v ∧ v ≤ 1) (n i k : Nat) : IntKind.i64.wrap (IntKind.i64.wrap (2 * p.getD i 0) + p.getD (n + k) 0) = ((bitIx p n i k : Nat) : Int) ∧ bitIx p n i k < 4 := by
  have h1 := bits_mem h (i := i)
  have h2 := bits_mem h (i := n + k)
  unfold bitIx
  rw [w64 (n := 2 * p.getD i 0) (by omega) (by omega), w64 (by omega) (by omega)]
  omega
def wonAt (s : List Int) (m : List (List Int)) (p : List Int) (nx ny i k : Nat) : Int := W (s.getD (i * ny + k) 0 * (m.getD (i * ny + k) []).getD (bitIx p nx i k) 0)
def scoreRow (s : List Int) (m : List (List Int)) (p : List Int) (nx ny i : Nat) (a : Int) (n : Nat) : Int := fo (fun a k => W (a + wonAt s m p nx ny i k)) a n
def scoreTo (s : List Int) (m : List (List Int)) (p : List Int) (nx ny n : Nat) : Int := fo (fun a i => scoreRow s m p nx ny i a ny) 0 n
def pwRow (f : List (List Int)) (p : List Int) (nx ny i : Nat) (a : Int) (n : Nat) : Int := fo (fun a k => W (a + (f.getD (i * ny + k) []).getD (bitIx p nx i k) 0)) a n
def pwTo (f : List (List Int)) (p : List Int) (nx ny n : Nat) : Int := fo (fun a i => pwRow f p nx ny i a ny) 0 n
def fnGRow (s : List Int) (m : List (List Int)) (i : Nat) : List Int := (m.getD i []).map (fun w => W (w * s.getD i 0))
def funG (s : List Int) (m : List (List Int)) : List (List Int) := (List.range m.length).map (fnGRow s m)
theorem pw_score (s : List Int) (m : List (List Int)) (p : List Int) (nx ny : Nat) (hp : ∀ v, v ∈ p → 0 ≤ v ∧ v ≤ 1) (hm : m.length = nx * ny) (h4 : ∀ r, r ∈ m → r.length = 4) :
    pwTo (funG s m) p nx ny nx = scoreTo s m p nx ny nx := by
  refine fo_congr fun a i hi => fo_congr fun b k hk => ?_
  have hlt := ix_lt hi hk
  have hb := (bitIx_eq hp nx i k).2
  have hrow : (m.getD (i * ny + k) []).length = 4 := h4 _ (by rw [List.getD_eq_getElem?_getD, List.getElem?_eq_getElem (by omega)]; exact List.getElem_mem _)
  rw [funG, range_getD (by omega), fnGRow, map_getD (d := 0) (by omega), wonAt, Int.mul_comm]
end Go.Aw
namespace Go.Proofs.YtkomndcehdneaaaGreat
open Go.Aw
set_option maxRecDepth 100000
set_option maxHeartbeats 4000000



theorem playWorth_spec (nx ny : Nat) (f : List (List Int)) (p : List Int) (hx : nx ≤ 3) (hy : ny ≤ 3) (hf : f.length = nx * ny) (h4 : ∀ r, r ∈ f → r.length = 4) (hp : ∀ v, v ∈ p → 0 ≤ v ∧ v ≤ 1) (hl : p.length = nx + ny) :
    FSpec Tryz.prog 155 [.c (.int .i64 (nx)), .c (.int .i64 (ny)), .t (.rows f), .t (.ints .i64 p)] (ex (.c (.int .i64 (pwTo f p nx ny nx))) []) := by
  have hn : nx * ny ≤ 3 * 3 := Nat.mul_le_mul hx hy
  refine fspec tyOk mx Tryz.func155 rfl (by kernel_rfl) rfl ?_
  conv => whnf
  refine aloopI tyOk mx (fun i : Nat => (⟨47, [(0, .c (.int .i64 (nx))), (1, .c (.int .i64 (ny))), (2, .t (.rows f)), (3, .t (.ints .i64 p)), (9, .c (.int .i64 (pwTo f p nx ny i))), (12, .c (.int .i64 (nx))), (13, .c (.int .i64 (i)))], [], 0⟩ : St)) (fun i => i ≤ nx) (fun i => nx - i) 0 (Nat.zero_le _) none (by refine ⟨rfl, rfl, ?_, ?_⟩ <;> ((repeat' (first | exact trivial | exact rfl | refine And.intro ?_ ?_)) <;> (try ((conv => whnf); first | refine vint ?_ | refine vboo ?_ | refine rint ?_ | refine rrow ?_ | skip)) <;> (try first | omega | (simp; done) | ((repeat rw [flts_closed _ (by assumption)]); exact vws_closed _ (by assumption))))) (fun i hi => ?_)
  refine ⟨fun h => ?_, fun h => ?_⟩
  · have h := ltT h
    conv => whnf
    refine aloopI tyOk mx (fun k : Nat => (⟨47, [(0, .c (.int .i64 (nx))), (1, .c (.int .i64 (ny))), (2, .t (.rows f)), (3, .t (.ints .i64 p)), (9, .c (.int .i64 (pwRow f p nx ny i (pwTo f p nx ny i) k))), (10, .c (.int .i64 (i))), (12, .c (.int .i64 (nx))), (13, .c (.int .i64 (i))), (16, .c (.int .i64 (ny))), (17, .c (.int .i64 (k)))], [], 0⟩ : St)) (fun k => k ≤ ny) (fun k => ny - k) 0 (Nat.zero_le _) none (by refine ⟨rfl, rfl, ?_, ?_⟩ <;> ((repeat' (first | exact trivial | exact rfl | refine And.intro ?_ ?_)) <;> (try ((conv => whnf); first | refine vint ?_ | refine vboo ?_ | refine rint ?_ | refine rrow ?_ | skip)) <;> (try first | omega | (simp; done) | ((repeat rw [flts_closed _ (by assumption)]); exact vws_closed _ (by assumption))))) (fun k hk => ?_)
    refine ⟨fun h2 => ?_, fun h2 => ?_⟩
    · have h2 := ltT h2
      have hlt := ix_lt h h2
      have hb := bitIx_eq hp nx i k
      have hrow : (f.getD (i * ny + k) []).length = 4 := h4 _ (getD_mem (by omega))
      conv => whnf
      refine ADraw.std tyOk mx ⟨by kernel_rfl, i * ny + k, natMulAdd (by omega), by omega, i, rfl, by omega, nx + k, natAdd (by omega), by omega, bitIx p nx i k, hb.1, by omega, ?_⟩
      conv => whnf
      rw [nat_wrap (by omega)]
      exact ⟨k + 1, none, (by refine ⟨rfl, rfl, ?_, ?_⟩ <;> ((repeat' (first | exact trivial | exact rfl | refine And.intro ?_ ?_)) <;> (try ((conv => whnf); first | refine vint ?_ | refine vboo ?_ | refine rint ?_ | refine rrow ?_ | skip)) <;> (try first | omega | (simp; done) | ((repeat rw [flts_closed _ (by assumption)]); exact vws_closed _ (by assumption))))), by omega, by omega⟩
    · have h2 := ltF h2
      obtain rfl : k = ny := by omega
      conv => whnf
      rw [nat_wrap (by omega)]
      exact ⟨i + 1, none, (by refine ⟨rfl, rfl, ?_, ?_⟩ <;> ((repeat' (first | exact trivial | exact rfl | refine And.intro ?_ ?_)) <;> (try ((conv => whnf); first | refine vint ?_ | refine vboo ?_ | refine rint ?_ | refine rrow ?_ | skip)) <;> (try first | omega | (simp; done) | ((repeat rw [flts_closed _ (by assumption)]); exact vws_closed _ (by assumption))))), by omega, by omega⟩
  · have h := ltF h
    obtain rfl : i = nx := by omega
    conv => whnf
    exact ⟨rfl, rfl⟩

theorem functional_spec (x y : Int) (s : List Int) (m : List (List Int)) (hs : s.length = m.length) (hm : m.length ≤ 1000) (h4 : ∀ r, r ∈ m → r.length ≤ 1000) :
    FSpec Tryz.prog 107 [.ag [.c (.int .i64 (x)), .c (.int .i64 (y)), .t (.ints .i64 s), .t (.rows m)]] (ex (.own 0) [(0, .rows 38 3 true (funG s m))]) := by
  refine fspec tyOk mx Tryz.func107 rfl (by kernel_rfl) rfl ?_
  conv => whnf
  refine aloopI tyOk mx (fun i : Nat => (⟨42, [(1, .ptr 0 0), (3, .own 1), (11, .t (.rows m)), (12, .c (.int .i64 (m.length))), (13, .c (.int .i64 (i)))], [(0, .cells 41 [.c (.int .i64 (x)), .c (.int .i64 (y)), .t (.ints .i64 s), .t (.rows m)]), (1, .rows 38 3 true ((List.range i).map (fnGRow s m)))], 2⟩ : St)) (fun i => i ≤ m.length) (fun i => m.length - i) 0 (Nat.zero_le _) none (by refine ⟨rfl, rfl, ?_, ?_⟩ <;> ((repeat' (first | exact trivial | exact rfl | refine And.intro ?_ ?_)) <;> (try ((conv => whnf); first | refine vint ?_ | refine vboo ?_ | refine rint ?_ | refine rrow ?_ | skip)) <;> (try first | omega | (simp; done) | ((repeat rw [flts_closed _ (by assumption)]); exact vws_closed _ (by assumption))))) (fun i hi => ?_)
  refine ⟨fun h => ?_, fun h => ?_⟩
  · have h := ltT h
    have h5 := h4 _ (getD_mem (d := []) h)
    conv => whnf
    refine ⟨i, rfl, h, ?_⟩
    conv => whnf
    refine aloopI tyOk mx (fun k : Nat => (⟨42, [(1, .ptr 0 0), (3, .own 1), (4, .c (.int .i64 (i))), (6, .own 2), (11, .t (.rows m)), (12, .c (.int .i64 (m.length))), (13, .c (.int .i64 (i))), (19, .t (.ints .i64 (m.getD i []))), (20, .c (.int .i64 ((m.getD i []).length))), (21, .c (.int .i64 (k)))], [(0, .cells 41 [.c (.int .i64 (x)), .c (.int .i64 (y)), .t (.ints .i64 s), .t (.rows m)]), (1, .rows 38 3 true ((List.range i).map (fnGRow s m))), (2, .ints 3 .i64 (((m.getD i []).take k).map (fun w => W (w * s.getD i 0))))], 3⟩ : St)) (fun k => k ≤ (m.getD i []).length) (fun k => (m.getD i []).length - k) 0 (Nat.zero_le _) none (by refine ⟨rfl, rfl, ?_, ?_⟩ <;> ((repeat' (first | exact trivial | exact rfl | refine And.intro ?_ ?_)) <;> (try ((conv => whnf); first | refine vint ?_ | refine vboo ?_ | refine rint ?_ | refine rrow ?_ | skip)) <;> (try first | omega | (simp; done) | ((repeat rw [flts_closed _ (by assumption)]); exact vws_closed _ (by assumption))))) (fun k hk => ?_)
    refine ⟨fun h2 => ?_, fun h2 => ?_⟩
    · have h2 := ltT h2
      conv => whnf
      refine ⟨k, rfl, h2, ?_⟩
      conv => whnf
      refine ⟨i, rfl, by omega, ?_⟩
      conv => whnf
      refine ⟨by simp [room]; omega, ?_⟩
      conv => whnf
      rw [nat_wrap (by omega)]
      refine ⟨k + 1, none, ?_, by omega, by omega⟩
      (refine ⟨rfl, rfl, ?_, ?_⟩ <;> ((repeat' (first | exact trivial | exact rfl | refine And.intro ?_ ?_)) <;> (try ((conv => whnf); first | refine vint ?_ | refine vboo ?_ | refine rint ?_ | refine rrow ?_ | skip)) <;> (try first | omega | (simp; done) | ((repeat rw [flts_closed _ (by assumption)]); exact vws_closed _ (by assumption)))))
      rw [List.take_succ_eq_append_getElem h2, List.map_append, getD_lt h2]
      rfl
    · have h2 := ltF h2
      obtain rfl : k = (m.getD i []).length := by omega
      conv => whnf
      refine ⟨by simp [room]; omega, ?_⟩
      conv => whnf
      rw [nat_wrap (by omega)]
      refine ⟨i + 1, none, ?_, by omega, by omega⟩
      (refine ⟨rfl, rfl, ?_, ?_⟩ <;> ((repeat' (first | exact trivial | exact rfl | refine And.intro ?_ ?_)) <;> (try ((conv => whnf); first | refine vint ?_ | refine vboo ?_ | refine rint ?_ | refine rrow ?_ | skip)) <;> (try first | omega | (simp; done) | ((repeat rw [flts_closed _ (by assumption)]); exact vws_closed _ (by assumption)))))
      rw [← map_range_succ, fnGRow, List.take_length]
  · have h := ltF h
    obtain rfl : i = m.length := by omega
    conv => whnf
    exact ⟨rfl, rfl⟩

theorem l4Functional_spec (x y : Int) (s : List Int) (m : List (List Int)) (hs : s.length = m.length) (hm : m.length ≤ 1000) (h4 : ∀ r, r ∈ m → r.length = 4) :
    FSpec Tryz.prog 94 [.ag [.c (.int .i64 (x)), .c (.int .i64 (y)), .t (.ints .i64 s), .t (.rows m)]] (ex (.own 0) [(0, .rows 38 3 true (funG s m))]) := by
  refine fspec tyOk mx Tryz.func94 rfl (by kernel_rfl) rfl ?_
  conv => whnf
  refine aloopI tyOk mx (fun i : Nat => (⟨42, [(1, .ptr 0 0), (3, .own 1), (4, .c (.int .i64 (i)))], [(0, .cells 41 [.c (.int .i64 (x)), .c (.int .i64 (y)), .t (.ints .i64 s), .t (.rows m)]), (1, .rows 38 3 true ((List.range i).map (fnGRow s m)))], 2⟩ : St)) (fun i => i ≤ m.length) (fun i => m.length - i) 0 (Nat.zero_le _) none (by refine ⟨rfl, rfl, ?_, ?_⟩ <;> ((repeat' (first | exact trivial | exact rfl | refine And.intro ?_ ?_)) <;> (try ((conv => whnf); first | refine vint ?_ | refine vboo ?_ | refine rint ?_ | refine rrow ?_ | skip)) <;> (try first | omega | (simp; done) | ((repeat rw [flts_closed _ (by assumption)]); exact vws_closed _ (by assumption))))) (fun i hi => ?_)
  refine ⟨fun h => ?_, fun h => ?_⟩
  · have h := ltT h
    have h5 := h4 _ (getD_mem (d := []) h)
    conv => whnf
    refine aloopI tyOk mx (fun k : Nat => (⟨42, [(1, .ptr 0 0), (3, .own 1), (4, .c (.int .i64 (i))), (5, .own 2), (6, .c (.int .i64 (k)))], [(0, .cells 41 [.c (.int .i64 (x)), .c (.int .i64 (y)), .t (.ints .i64 s), .t (.rows m)]), (1, .rows 38 3 true ((List.range i).map (fnGRow s m))), (2, .ints 3 .i64 (((m.getD i []).take k).map (fun w => W (w * s.getD i 0))))], 3⟩ : St)) (fun k => k ≤ 4) (fun k => 4 - k) 0 (Nat.zero_le _) none (by refine ⟨rfl, rfl, ?_, ?_⟩ <;> ((repeat' (first | exact trivial | exact rfl | refine And.intro ?_ ?_)) <;> (try ((conv => whnf); first | refine vint ?_ | refine vboo ?_ | refine rint ?_ | refine rrow ?_ | skip)) <;> (try first | omega | (simp; done) | ((repeat rw [flts_closed _ (by assumption)]); exact vws_closed _ (by assumption))))) (fun k hk => ?_)
    refine ⟨fun h2 => ?_, fun h2 => ?_⟩
    · have h2 : k < (m.getD i []).length := by have := of_decide_eq_true h2; omega
      conv => whnf
      refine ADraw.plan tyOk mx (.q 0 (.q 1 (.q 2 (.q 3 (.q 4 (.q 5 (.q 6 (.q 7 (.q 8 (.q 9 (.q 10 (.q 11 (.q 12 (.q 13 (.q 14 (.last 15 (.last 16 (.q 17 (.done)))))))))))))))))) : Plan) (by kernel_rfl) ?_
      conv => whnf
      refine ⟨i, rfl, by omega, i, rfl, h, k, rfl, h2, ?_⟩
      conv => whnf
      refine ⟨by simp [room]; omega, ?_⟩
      conv => whnf
      rw [nat_wrap (by omega)]
      refine ⟨k + 1, none, ?_, by omega, by omega⟩
      (refine ⟨rfl, rfl, ?_, ?_⟩ <;> ((repeat' (first | exact trivial | exact rfl | refine And.intro ?_ ?_)) <;> (try ((conv => whnf); first | refine vint ?_ | refine vboo ?_ | refine rint ?_ | refine rrow ?_ | skip)) <;> (try first | omega | (simp; done) | ((repeat rw [flts_closed _ (by assumption)]); exact vws_closed _ (by assumption)))))
      rw [List.take_succ_eq_append_getElem h2, List.map_append, getD_lt h2, Int.mul_comm]
      rfl
    · have h2 : ¬ k < 4 := by have := of_decide_eq_false h2; omega
      obtain rfl : k = 4 := by omega
      conv => whnf
      refine ⟨by simp [room]; omega, ?_⟩
      conv => whnf
      rw [nat_wrap (by omega)]
      refine ⟨i + 1, none, ?_, by omega, by omega⟩
      (refine ⟨rfl, rfl, ?_, ?_⟩ <;> ((repeat' (first | exact trivial | exact rfl | refine And.intro ?_ ?_)) <;> (try ((conv => whnf); first | refine vint ?_ | refine vboo ?_ | refine rint ?_ | refine rrow ?_ | skip)) <;> (try first | omega | (simp; done) | ((repeat rw [flts_closed _ (by assumption)]); exact vws_closed _ (by assumption)))))
      rw [← map_range_succ, fnGRow, List.take_of_length_le (by omega)]
  · have h := ltF h
    obtain rfl : i = m.length := by omega
    conv => whnf
    exact ⟨rfl, rfl⟩

theorem score_spec (nx ny : Nat) (s : List Int) (m : List (List Int)) (p : List Int) (hx : nx ≤ 3) (hy : ny ≤ 3) (hs : s.length = nx * ny) (hm : m.length = nx * ny) (h4 : ∀ r, r ∈ m → r.length = 4) (hp : ∀ v, v ∈ p → 0 ≤ v ∧ v ≤ 1) (hl : p.length = nx + ny) :
    FSpec Tryz.prog 109 [.ag [.c (.int .i64 (nx)), .c (.int .i64 (ny)), .t (.ints .i64 s), .t (.rows m)], .t (.ints .i64 p)] (ex (.c (.int .i64 (scoreTo s m p nx ny nx))) []) := by
  have hn : nx * ny ≤ 3 * 3 := Nat.mul_le_mul hx hy
  have hf : (funG s m).length = nx * ny := by simp [funG, hm]
  have hf4 : ∀ r, r ∈ funG s m → r.length = 4 := fun r hr => by
    obtain ⟨i, hi, rfl⟩ := List.mem_map.1 hr
    rw [fnGRow, List.length_map]
    exact h4 _ (getD_mem (by simpa using hi))
  refine fspec tyOk mx Tryz.func109 rfl (by kernel_rfl) rfl ?_
  conv => whnf
  refine ADraw.plan tyOk mx (.q 0 (.q 1 (.q 2 (.q 3 (.q 4 (.q 6 (.last 5 (.last 7 (.q 8 (.done))))))))) : Plan) (by kernel_rfl) ?_
  conv => whnf
  refine ACall.useR (functional_spec _ _ s m (by omega) (by omega) (fun r hr => by have := h4 r hr; omega)) ?_
  conv => whnf
  refine ACall.useR (playWorth_spec nx ny (funG s m) p hx hy hf hf4 hp hl) ?_
  conv => whnf
  exact ⟨by rw [pw_score s m p nx ny hp hm h4], rfl⟩

theorem isPlay_spec (x y : Int) (p : List Int) (hl : p.length ≤ 1048576) :
    FSpec Tryz.prog 86 [.c (.int .i64 (x)), .c (.int .i64 (y)), .t (.ints .i64 p)] (ex (.c (.bool (decide ((p.length : Int) = W (x + y)) && rowIn p 0 1))) []) := by
  refine fspec tyOk mx Tryz.func86 rfl (by kernel_rfl) rfl ?_
  conv => whnf
  refine ⟨fun h => ?_, fun h => ?_⟩
  · conv => whnf
    refine ACall.use (allWithin_spec p _ _ (by omega)) ?_
    conv => whnf
    refine ⟨?_, rfl⟩
    rw [decide_eq_true (by simpa using h), Bool.true_and]
  · conv => whnf
    refine ⟨?_, rfl⟩
    rw [decide_eq_false (by simpa using h), Bool.false_and]

def isGP (x y : Int) (s : List Int) (m : List (List Int)) (p : List Int) : Bool := goodG x y s m && (decide ((p.length : Int) = W (x + y)) && rowIn p 0 1)
theorem isGP_spec {x y : Int} {s : List Int} {m : List (List Int)} {p : List Int} (h : isGP x y s m p = true) : ∃ a b : Nat, x = a ∧ y = b ∧ 1 ≤ a ∧ a ≤ 3 ∧ 1 ≤ b ∧ b ≤ 3 ∧ s.length = a * b ∧ m.length = a * b ∧ a * b ≤ 9 ∧
    (∀ v, v ∈ s → 0 ≤ v ∧ v ≤ 99) ∧ 0 < sumF s s.length ∧ (∀ r, r ∈ m → r.length = 4 ∧ ∀ v, v ∈ r → 0 ≤ v ∧ v ≤ 1) ∧ p.length = a + b ∧ (∀ v, v ∈ p → 0 ≤ v ∧ v ≤ 1) := by
  simp only [isGP, Bool.and_eq_true, decide_eq_true_eq, rowIn_iff] at h
  obtain ⟨h1, h2, h3⟩ := h
  obtain ⟨a, b, rfl, rfl, g1, g2, g3, g4, g5, g6, g7, g8, g9, g10⟩ := goodG_spec h1
  have e : W ((a : Int) + b) = ((a + b : Nat) : Int) := natAdd (by omega)
  rw [e] at h2
  exact ⟨a, b, rfl, rfl, g1, g2, g3, g4, g5, g6, g7, g8, g9, g10, by omega, h3⟩

def psF (x y : Int) (s : List Int) (m : List (List Int)) (p : List Int) : Int := if isGP x y s m p then scoreTo s m p x.toNat y.toNat x.toNat else 0

end Go.Proofs.YtkomndcehdneaaaGreat
/- Functionals of games, scores of boxes: reference and program. -/
namespace Go.Proofs.YtkomndcehdneaaaGreat
open Go.Aw
set_option maxRecDepth 100000
set_option maxHeartbeats 4000000

/-- a game and a box with as many questions -/
def gbOk (x y : Int) (s : List Int) (m : List (List Int)) (bx by' bz : Int) (bm : List (List Int)) : Bool := goodG x y s m && goodB bx by' bz bm && decide (bx = x) && decide (by' = y)
def gbV (x y : Int) (s : List Int) (m : List (List Int)) (bx by' bz : Int) (bm : List (List Int)) : Int := if gbOk x y s m bx by' bz bm then worthF (funG s m) bm else 0
theorem funG_rows {s : List Int} {m : List (List Int)} (h4 : ∀ r, r ∈ m → r.length = 4) : ∀ r, r ∈ funG s m → r.length = 4 := fun r hr => by
  obtain ⟨i, hi, rfl⟩ := List.mem_map.1 hr
  rw [fnGRow, List.length_map]
  exact h4 _ (getD_mem (by simpa using hi))
theorem iBoxScore_spec (x y : Int) (s : List Int) (m : List (List Int)) (bx by' bz : Int) (bm : List (List Int)) (ks : SzI s) (km : SzM m) (kb : SzM bm) :
    FSpec Tryz.prog 37 [.ag [.c (.int .i64 (x)), .c (.int .i64 (y)), .t (.ints .i64 s), .t (.rows m)], .ag [.c (.int .i64 (bx)), .c (.int .i64 (by')), .c (.int .i64 (bz)), .t (.rows bm)]] (ex (.tu [.c (.int .i64 (gbV x y s m bx by' bz bm)), .c (.bool (gbOk x y s m bx by' bz bm))]) []) := by
  have no : gbOk x y s m bx by' bz bm = false → gbV x y s m bx by' bz bm = 0 := fun h => by rw [gbV, h]; rfl
  refine fspec tyOk mx Tryz.func37 rfl (by kernel_rfl) rfl ?_
  conv => whnf
  refine ACall.use (iIsGame_spec x y s m ks km) ?_
  conv => whnf
  refine ⟨fun h => ?_, fun h => ?_⟩
  · have h : goodG x y s m = true := by simpa using h
    conv => whnf
    refine ACall.use (IsBox_spec bx by' bz bm kb) ?_
    conv => whnf
    refine ⟨fun h2 => ?_, fun h2 => ?_⟩
    · have h2 : goodB bx by' bz bm = true := by simpa using h2
      conv => whnf
      refine ⟨fun h3 => ?_, fun h3 => ?_⟩
      · have h3 : bx = x := by simpa using h3
        conv => whnf
        refine ⟨fun h5 => ?_, fun h5 => ?_⟩
        · have h5 : ¬ by' = y := by simpa using h5
          have e : gbOk x y s m bx by' bz bm = false := by rw [gbOk, decide_eq_false h5, Bool.and_false]
          conv => whnf
          exact ⟨by rw [no e, e], rfl⟩
        · have h5 : by' = y := by simpa using h5
          subst h3; subst h5
          have e : gbOk bx by' s m bx by' bz bm = true := by rw [gbOk, h, h2]; simp
          obtain ⟨nx, ny, rfl, rfl, g1, g2, g3, g4, g5, g6, g7, g8, g9, g10⟩ := goodG_spec h
          obtain ⟨_, _, e1, e2, _, _, _, _, _, _, q7, q8, q9⟩ := goodB_spec h2
          obtain rfl := Int.ofNat_inj.1 e1
          obtain rfl := Int.ofNat_inj.1 e2
          have h4 : ∀ r, r ∈ m → r.length = 4 := fun r hr => (g10 r hr).1
          have hl : (funG s m).length = bm.length := by rw [q7, ← g6]; simp [funG]
          conv => whnf
          refine ADraw.plan tyOk mx (.q 0 (.q 2 (.q 3 (.last 1 (.last 4 (.q 5 (.q 6 (.done))))))) : Plan) (by kernel_rfl) ?_
          conv => whnf
          refine ACall.useR (functional_spec _ _ s m (by omega) (by omega) (fun r hr => by have := h4 r hr; omega)) ?_
          conv => whnf
          refine ACall.useR (worth_spec (funG s m) bm hl (by omega) (funG_rows h4) (fun r hr => (q9 r hr).1)) ?_
          conv => whnf
          exact ⟨by rw [gbV, e]; rfl, rfl⟩
      · have h3 : ¬ bx = x := by simpa using h3
        have e : gbOk x y s m bx by' bz bm = false := by rw [gbOk, decide_eq_false h3]; simp
        (repeat (conv => whnf); (first | refine ⟨fun h => absurd h (by decide), fun _ => ?_⟩ | refine ⟨fun _ => ?_, fun h => absurd h (by decide)⟩)); conv => whnf
        exact ⟨by rw [no e, e], rfl⟩
    · have h2 : goodB bx by' bz bm = false := by simpa using h2
      have e : gbOk x y s m bx by' bz bm = false := by rw [gbOk, h2]; simp
      (repeat (conv => whnf); (first | refine ⟨fun h => absurd h (by decide), fun _ => ?_⟩ | refine ⟨fun _ => ?_, fun h => absurd h (by decide)⟩)); conv => whnf
      exact ⟨by rw [no e, e], rfl⟩
  · have h : goodG x y s m = false := by simpa using h
    have e : gbOk x y s m bx by' bz bm = false := by rw [gbOk, h]; simp
    (repeat (conv => whnf); (first | refine ⟨fun h => absurd h (by decide), fun _ => ?_⟩ | refine ⟨fun _ => ?_, fun h => absurd h (by decide)⟩)); conv => whnf
    exact ⟨by rw [no e, e], rfl⟩
end Go.Proofs.YtkomndcehdneaaaGreat
/- Extreme boxes: the boxes of plays, reference and program. -/
namespace Go.Aw
def pbNum (play : List Int) (w : Int) (x y a b : Nat) : Int := if play.getD x 0 = a ∧ play.getD (2 + y) 0 = b then w else 0
def pbM (play : List Int) (w : Int) : List (List Int) := boxRows (pbNum play w) 2 2
theorem pb_row {play : List Int} {w : Int} {i k p q : Nat} (hp : play.getD i 0 = p) (hq : play.getD (2 + k) 0 = q) (h1 : p < 2) (h2 : q < 2) : (List.replicate 4 (0 : Int)).set (2 * p + q) w = boxRow (pbNum play w) i k := by
  unfold boxRow pbNum
  rw [hp, hq]
  have h1 : p = 0 ∨ p = 1 := by omega
  have h2 : q = 0 ∨ q = 1 := by omega
  rcases h1 with rfl | rfl <;> rcases h2 with rfl | rfl <;> rfl
theorem FSpec.told {P : Program} {f : FuncId} {args : List AVal} {x x' : AVal} {h : List (Nat × ARow)} (hs : FSpec P f args (ex x h)) (hv : vw h [] 0 x x') : FSpec P f args (ex x' []) :=
  hs.view (fun y hr e => by obtain ⟨rfl, rfl⟩ := e; exact ⟨[], x', [], rfl, trivial, hv, rfl, rfl⟩)
end Go.Aw
namespace Go.Proofs.YtkomndcehdneaaaGreat
open Go.Aw
set_option maxRecDepth 100000
set_option maxHeartbeats 4000000

theorem pbNum_spec (play : List Int) (hl : play.length = 4) (w : Int) (i k a b : Nat) (hi : i < 2) (hk : k < 2) :
    FSpec Tryz.prog 196 [.c (.int .i64 (i)), .c (.int .i64 (k)), .c (.int .i64 (a)), .c (.int .i64 (b)), .rp [.t (.ints .i64 play)] 0, .rp [.c (.int .i64 (2))] 0, .rp [.c (.int .i64 (w))] 0] (ex (.c (.int .i64 (pbNum play w i k a b))) []) := by
  have e : IntKind.i64.wrap ((2 : Int) + (k : Int)) = ((2 + k : Nat) : Int) := by rw [w64 (by omega) (by omega)]; omega
  refine fspec tyOk mx Tryz.func196 rfl (by kernel_rfl) rfl ?_
  conv => whnf
  refine ⟨i, rfl, by omega, ?_⟩
  conv => whnf
  refine ⟨fun h => ?_, fun h => ?_⟩
  · have h : play.getD i 0 = a := by simpa using h
    conv => whnf
    refine ⟨2 + k, e, by omega, ?_⟩
    conv => whnf
    refine ⟨fun h2 => ?_, fun h2 => ?_⟩
    · have h2 : play.getD (2 + k) 0 = b := by simpa using h2
      conv => whnf
      exact ⟨by rw [pbNum, if_pos ⟨h, h2⟩], rfl⟩
    · have h2 : ¬ play.getD (2 + k) 0 = b := by simpa using h2
      conv => whnf
      exact ⟨by rw [pbNum, if_neg (fun c => h2 c.2)], rfl⟩
  · have h : ¬ play.getD i 0 = a := by simpa using h
    conv => whnf
    (repeat (conv => whnf); (first | refine ⟨fun h => absurd h (by decide), fun _ => ?_⟩ | refine ⟨fun _ => ?_, fun h => absurd h (by decide)⟩)); conv => whnf
    exact ⟨by rw [pbNum, if_neg (fun c => h c.1)], rfl⟩

theorem playBox_spec (play : List Int) (hl : play.length = 4) (w : Int) :
    FSpec Tryz.prog 168 [.c (.int .i64 (2)), .c (.int .i64 (2)), .t (.ints .i64 play), .c (.int .i64 (w))] (ex (.ag [.c (.int .i64 (2)), .c (.int .i64 (2)), .c (.int .i64 (w)), .own 0]) [(0, .rows 38 3 true (pbM play w))]) := by
  refine fspec tyOk mx Tryz.func168 rfl (by kernel_rfl) rfl ?_
  conv => whnf
  refine ACall.use (newBox_spec 2 2 w _ [.rp [.t (.ints .i64 play)] 0, .rp [.c (.int .i64 (2))] 0, .rp [.c (.int .i64 (w))] 0] (pbNum play w) (by omega) (by omega) (fun _ _ => rfl) rfl (fun i k' a b hi hk _ _ => pbNum_spec play hl w i k' a b hi hk)) ?_
  conv => whnf
  exact ⟨rfl, rfl⟩

theorem l2PlayBox_spec (play : List Int) (hl : play.length = 4) (h01 : ∀ v, v ∈ play → 0 ≤ v ∧ v ≤ 1) (w : Int) :
    FSpec Tryz.prog 157 [.c (.int .i64 (2)), .c (.int .i64 (2)), .t (.ints .i64 play), .c (.int .i64 (w))] (ex (.ag [.c (.int .i64 (2)), .c (.int .i64 (2)), .c (.int .i64 (w)), .own 0]) [(0, .rows 38 3 true (pbM play w))]) := by
  refine fspec tyOk mx Tryz.func157 rfl (by kernel_rfl) rfl ?_
  conv => whnf
  refine aloopI tyOk mx (fun i : Nat => (⟨51, [(0, .c (.int .i64 (2))), (1, .c (.int .i64 (2))), (2, .t (.ints .i64 play)), (3, .c (.int .i64 (w))), (8, .ptr 0 0), (9, .ptr 2 0), (10, .c (.int .i64 (i)))], [(0, .cells 26 [.c (.int .i64 (0)), .c (.int .i64 (0)), .c (.int .i64 (0)), .c (.slice none 0 0)]), (1, .rows 38 3 true (boxTo (pbNum play w) 2 i 0)), (2, .cells 26 [.c (.int .i64 (2)), .c (.int .i64 (2)), .c (.int .i64 (w)), .own 1])], 3⟩ : St)) (fun i => i ≤ 2) (fun i => 2 - i) 0 (Nat.zero_le _) none (by refine ⟨rfl, rfl, ?_, ?_⟩ <;> ((repeat' (first | exact trivial | exact rfl | refine And.intro ?_ ?_)) <;> (try ((conv => whnf); first | refine vint ?_ | refine vboo ?_ | refine rint ?_ | refine rrow ?_ | skip)) <;> (try first | omega | (simp; done) | ((repeat rw [flts_closed _ (by assumption)]); exact vws_closed _ (by assumption))))) (fun i hi => ?_)
  refine ⟨fun h => ?_, fun h => ?_⟩
  · have h : i < 2 := by have := of_decide_eq_true h; omega
    conv => whnf
    refine aloopI tyOk mx (fun k : Nat => (⟨51, [(0, .c (.int .i64 (2))), (1, .c (.int .i64 (2))), (2, .t (.ints .i64 play)), (3, .c (.int .i64 (w))), (8, .ptr 0 0), (9, .ptr 2 0), (10, .c (.int .i64 (i))), (11, .c (.int .i64 (k)))], [(0, .cells 26 [.c (.int .i64 (0)), .c (.int .i64 (0)), .c (.int .i64 (0)), .c (.slice none 0 0)]), (1, .rows 38 3 true (boxTo (pbNum play w) 2 i k)), (2, .cells 26 [.c (.int .i64 (2)), .c (.int .i64 (2)), .c (.int .i64 (w)), .own 1])], 3⟩ : St)) (fun k => k ≤ 2) (fun k => 2 - k) 0 (Nat.zero_le _) none (by refine ⟨rfl, rfl, ?_, ?_⟩ <;> ((repeat' (first | exact trivial | exact rfl | refine And.intro ?_ ?_)) <;> (try ((conv => whnf); first | refine vint ?_ | refine vboo ?_ | refine rint ?_ | refine rrow ?_ | skip)) <;> (try first | omega | (simp; done) | ((repeat rw [flts_closed _ (by assumption)]); exact vws_closed _ (by assumption))))) (fun k hk => ?_)
    have hlen := boxTo_len (pbNum play w) 2 i k
    refine ⟨fun h2 => ?_, fun h2 => ?_⟩
    · have h2 : k < 2 := by have := of_decide_eq_true h2; omega
      have hp := h01 _ (getD_mem (d := 0) (show i < play.length by omega))
      have hq := h01 _ (getD_mem (d := 0) (show 2 + k < play.length by omega))
      have e : IntKind.i64.wrap ((2 : Int) + (k : Int)) = ((2 + k : Nat) : Int) := by rw [w64 (by omega) (by omega)]; omega
      have e2 : IntKind.i64.wrap (IntKind.i64.wrap (2 * play.getD i 0) + play.getD (2 + k) 0) = ((2 * (play.getD i 0).toNat + (play.getD (2 + k) 0).toNat : Nat) : Int) := by
        rw [w64 (n := 2 * play.getD i 0) (by omega) (by omega), w64 (by omega) (by omega)]; omega
      conv => whnf
      refine ⟨4, rfl, rfl, by simp [room], ?_⟩
      conv => whnf
      refine ADraw.plan tyOk mx (.q 0 (.q 1 (.q 2 (.q 3 (.q 4 (.q 5 (.q 6 (.q 7 (.q 8 (.q 9 (.q 10 (.q 11 (.q 12 (.q 13 (.q 14 (.last 15 (.done)))))))))))))))) : Plan) (by kernel_rfl) ?_
      conv => whnf
      repeat' (first | (refine ⟨i, rfl, by omega, ?_⟩; conv => whnf) | (refine ⟨2 + k, e, by omega, ?_⟩; conv => whnf) | (refine ⟨2 * (play.getD i 0).toNat + (play.getD (2 + k) 0).toNat, e2, by rw [List.length_replicate]; omega, ?_⟩; conv => whnf) | (refine ⟨by simp [room]; omega, ?_⟩; conv => whnf) | (refine And.intro ?_ ?_ <;> (conv => whnf)))
      all_goals
        rw [nat_wrap (by omega)]
        refine ⟨k + 1, none, ?_, by omega, by omega⟩
        (refine ⟨rfl, rfl, ?_, ?_⟩ <;> ((repeat' (first | exact trivial | exact rfl | refine And.intro ?_ ?_)) <;> (try ((conv => whnf); first | refine vint ?_ | refine vboo ?_ | refine rint ?_ | refine rrow ?_ | skip)) <;> (try first | omega | (simp; done) | ((repeat rw [flts_closed _ (by assumption)]); exact vws_closed _ (by assumption)))))
        rw [← boxTo_row, ← pb_row (i := i) (k := k) (p := (play.getD i 0).toNat) (q := (play.getD (2 + k) 0).toNat) (by omega) (by omega) (by omega) (by omega)]
    · have h2 : ¬ k < 2 := by have := of_decide_eq_false h2; omega
      obtain rfl : k = 2 := by omega
      conv => whnf
      rw [nat_wrap (by omega)]
      refine ⟨i + 1, none, ?_, by omega, by omega⟩
      (refine ⟨rfl, rfl, ?_, ?_⟩ <;> ((repeat' (first | exact trivial | exact rfl | refine And.intro ?_ ?_)) <;> (try ((conv => whnf); first | refine vint ?_ | refine vboo ?_ | refine rint ?_ | refine rrow ?_ | skip)) <;> (try first | omega | (simp; done) | ((repeat rw [flts_closed _ (by assumption)]); exact vws_closed _ (by assumption)))))
      exact boxTo_end _ 2 i
  · have h : ¬ i < 2 := by have := of_decide_eq_false h; omega
    obtain rfl : i = 2 := by omega
    conv => whnf
    exact ⟨rfl, by rw [boxTo_all]; rfl⟩
end Go.Proofs.YtkomndcehdneaaaGreat
/- Extreme boxes, in order: reference and program. -/
namespace Go.Proofs.YtkomndcehdneaaaGreat
open Go.Aw
set_option maxRecDepth 100000
set_option maxHeartbeats 4000000

def exRow (i : Nat) : List (List Int) := if i < 16 then pbM ((playsL 4).getD i []) 2 else equalM ((i : Int) - 16)
def exL (n : Nat) : List (List Int × List (List Int)) := (List.range n).map fun i => ([2, 2, 2], exRow i)
theorem exL_len (n : Nat) : (exL n).length = n := by simp [exL]
theorem exL_get {n i : Nat} (h : i < n) : (exL n).getD i ([], []) = ([2, 2, 2], exRow i) := range_getD h
theorem exL_succ (n : Nat) : exL n ++ [([2, 2, 2], exRow n)] = exL (n + 1) := map_range_succ _ n
theorem exRow_len (i : Nat) : (exRow i).length = 4 := by
  unfold exRow
  split
  · exact boxRows_len _ 2 2
  · exact boxRows_len _ 2 2
theorem exRow_rows (i : Nat) : ∀ r, r ∈ exRow i → r.length = 4 := by
  have key : ∀ f : Nat → Nat → Nat → Nat → Int, ∀ q, q ∈ boxRows f 2 2 → q.length = 4 := fun f q hq => by
    obtain ⟨i, _, hq⟩ := List.mem_flatMap.1 hq
    obtain ⟨j, _, rfl⟩ := List.mem_map.1 hq
    simp [boxRow]
  unfold exRow
  split
  · exact key _
  · exact key _
theorem play4 {i : Nat} (h : i < 16) : ((playsL 4).getD i []).length = 4 ∧ ∀ v, v ∈ (playsL 4).getD i [] → 0 ≤ v ∧ v ≤ 1 := playsL_row (by omega) (by rw [playsL_len]; simpa using h)

theorem extreme_spec (i : Nat) (hi : i < 24) : FSpec Tryz.prog 98 [.c (.int .i64 (i))] (ex (.ag [.c (.int .i64 (2)), .c (.int .i64 (2)), .c (.int .i64 (2)), .own 0]) [(0, .rows 38 3 true (exRow i))]) := by
  have hpl : (playsL 4).length = 16 := playsL_len 4
  refine fspec tyOk mx Tryz.func98 rfl (by kernel_rfl) rfl ?_
  conv => whnf
  refine ⟨fun h => ?_, fun h => ?_⟩
  · have h : i < 16 := by have := of_decide_eq_true h; omega
    have e : exRow i = pbM ((playsL 4).getD i []) 2 := by rw [exRow, if_pos h]
    conv => whnf
    refine ACall.use (plays_spec 2 2 (by omega)) ?_
    conv => whnf
    refine ⟨i, rfl, by show i < (playsL 4).length; omega, ?_⟩
    conv => whnf
    refine ACall.use (playBox_spec ((playsL 4).getD i []) (play4 h).1 2) ?_
    conv => whnf
    exact ⟨rfl, by rw [e]⟩
  · have h : ¬ i < 16 := by have := of_decide_eq_false h; omega
    have e : exRow i = equalM ((i : Int) - 16) := by rw [exRow, if_neg h]
    have e2 : IntKind.i64.wrap ((i : Int) - 16) = (i : Int) - 16 := w64 (by omega) (by omega)
    conv => whnf
    refine ACall.use (equalSum_spec _) ?_
    conv => whnf
    exact ⟨rfl, by rw [e, e2]⟩

theorem l6Extremes_own : FSpec Tryz.prog 95 [] (ex (.own 0) [(0, .recs 26 3 (exL 24))]) := by
  have hpl : (playsL 4).length = 16 := playsL_len 4
  refine fspec tyOk mx Tryz.func95 rfl (by kernel_rfl) rfl ?_
  conv => whnf
  refine ACall.use ((l2Plays_spec 2 2 (by omega)).told (x' := .t (.rows (playsL 4))) ⟨rfl, rfl⟩) ?_
  conv => whnf
  refine aloopI tyOk mx (fun i : Nat => (⟨31, [(1, .own 0), (2, .t (.rows (playsL 4))), (3, .c (.int .i64 (i)))], [(0, .recs 26 3 (exL i))], 1⟩ : St)) (fun i => i ≤ 16) (fun i => 16 - i) 0 (Nat.zero_le _) none (by refine ⟨rfl, rfl, ?_, ?_⟩ <;> ((repeat' (first | exact trivial | exact rfl | refine And.intro ?_ ?_)) <;> (try ((conv => whnf); first | refine vint ?_ | refine vboo ?_ | refine rint ?_ | refine rrow ?_ | skip)) <;> (try first | omega | (simp; done) | ((repeat rw [flts_closed _ (by assumption)]); exact vws_closed _ (by assumption))))) (fun i hi => ?_)
  have hl := exL_len i
  refine ⟨fun h => ?_, fun h => ?_⟩
  · have h : i < 16 := by have := of_decide_eq_true h; rw [hpl] at this; omega
    have e : exRow i = pbM ((playsL 4).getD i []) 2 := by rw [exRow, if_pos h]
    conv => whnf
    refine ⟨i, rfl, by omega, ?_⟩
    conv => whnf
    refine ACall.use ((l2PlayBox_spec ((playsL 4).getD i []) (play4 h).1 (play4 h).2 2).told (x' := .ag [.c (.int .i64 (2)), .c (.int .i64 (2)), .c (.int .i64 (2)), .t (.rows (pbM ((playsL 4).getD i []) 2))]) ⟨rfl, rfl, rfl, ⟨rfl, rfl⟩, trivial⟩) ?_
    conv => whnf
    refine ⟨by rw [hl]; simp [room]; omega, ?_⟩
    conv => whnf
    rw [nat_wrap (by omega)]
    refine ⟨i + 1, none, ?_, by omega, by omega⟩
    refine ⟨rfl, rfl, ⟨⟨rfl, rfl⟩, rfl, rfl, trivial⟩, rfl, ?_, trivial⟩
    show ARow.recs _ _ _ = ARow.recs _ _ _
    rw [← exL_succ, e]
  · have h : ¬ i < 16 := by have := of_decide_eq_false h; rw [hpl] at this; omega
    obtain rfl : i = 16 := by omega
    conv => whnf
    refine aloopI tyOk mx (fun k : Nat => (⟨31, [(1, .own 0), (4, .c (.int .i64 (k)))], [(0, .recs 26 3 (exL (16 + k)))], 1⟩ : St)) (fun k => k ≤ 8) (fun k => 8 - k) 0 (Nat.zero_le _) none (by refine ⟨rfl, rfl, ?_, ?_⟩ <;> ((repeat' (first | exact trivial | exact rfl | refine And.intro ?_ ?_)) <;> (try ((conv => whnf); first | refine vint ?_ | refine vboo ?_ | refine rint ?_ | refine rrow ?_ | skip)) <;> (try first | omega | (simp; done) | ((repeat rw [flts_closed _ (by assumption)]); exact vws_closed _ (by assumption))))) (fun k hk => ?_)
    have hl := exL_len (16 + k)
    refine ⟨fun h => ?_, fun h => ?_⟩
    · have h : k < 8 := by have := of_decide_eq_true h; omega
      have e : exRow (16 + k) = equalM k := by rw [exRow, if_neg (by omega)]; congr 1; omega
      conv => whnf
      refine ACall.use ((l6Sum_spec k h).told (x' := .ag [.c (.int .i64 (2)), .c (.int .i64 (2)), .c (.int .i64 (2)), .t (.rows (equalM k))]) ⟨rfl, rfl, rfl, ⟨rfl, rfl⟩, trivial⟩) ?_
      conv => whnf
      refine ⟨by rw [hl]; simp [room]; omega, ?_⟩
      conv => whnf
      rw [nat_wrap (by omega)]
      refine ⟨k + 1, none, ?_, by omega, by omega⟩
      refine ⟨rfl, rfl, ⟨⟨rfl, rfl⟩, rfl, trivial⟩, rfl, ?_, trivial⟩
      show ARow.recs _ _ _ = ARow.recs _ _ _
      rw [show 16 + (k + 1) = 16 + k + 1 by omega, ← exL_succ, e]
    · have h : ¬ k < 8 := by have := of_decide_eq_false h; omega
      obtain rfl : k = 8 := by omega
      conv => whnf
      exact ⟨rfl, rfl⟩
theorem l6Extremes_spec : FSpec Tryz.prog 95 [] (ex (.t (.recs 3 (exL 24))) []) := l6Extremes_own.told ⟨rfl, rfl⟩
end Go.Proofs.YtkomndcehdneaaaGreat
/- Functionals of two questions each; the least and the greatest worth of extreme boxes: reference and program. -/
namespace Go.Aw
theorem mn_eq (a b : Int) : (if b < a then b else a) = min a b := by split <;> omega
theorem mx_eq (a b : Int) : (if b > a then b else a) = max a b := by split <;> omega
end Go.Aw
namespace Go.Proofs.YtkomndcehdneaaaGreat
open Go.Aw
set_option maxRecDepth 100000
set_option maxHeartbeats 4000000

theorem r1Most_spec (a b : Int) : FSpec Tryz.prog 100 [.c (.int .i64 (a)), .c (.int .i64 (b))] (ex (.c (.int .i64 (max a b))) []) := by
  refine fspec tyOk mx Tryz.func100 rfl (by kernel_rfl) rfl ?_
  conv => whnf
  refine ⟨fun h => ?_, fun h => ?_⟩
  · have h := of_decide_eq_true h
    conv => whnf
    refine ⟨?_, rfl⟩
    rw [Int.max_eq_left (by omega)]
  · have h := of_decide_eq_false h
    conv => whnf
    refine ⟨?_, rfl⟩
    rw [Int.max_eq_right (by omega)]
theorem r1Least_spec (a b : Int) : FSpec Tryz.prog 99 [.c (.int .i64 (a)), .c (.int .i64 (b))] (ex (.c (.int .i64 (min a b))) []) := by
  refine fspec tyOk mx Tryz.func99 rfl (by kernel_rfl) rfl ?_
  conv => whnf
  refine ⟨fun h => ?_, fun h => ?_⟩
  · have h := of_decide_eq_true h
    conv => whnf
    refine ⟨?_, rfl⟩
    rw [Int.min_eq_left (by omega)]
  · have h := of_decide_eq_false h
    conv => whnf
    refine ⟨?_, rfl⟩
    rw [Int.min_eq_right (by omega)]

def fnRow (r : List Int) : Bool := decide (r.length = 4) && rowIn r (-99) 99
def fnB (f : List (List Int)) : Bool := decide (f.length = 4) && f.all fnRow
theorem fnB_spec {f : List (List Int)} (h : fnB f = true) : f.length = 4 ∧ (∀ r, r ∈ f → r.length = 4) ∧ ∀ r, r ∈ f → ∀ v, v ∈ r → -99 ≤ v ∧ v ≤ 99 := by
  simp only [fnB, fnRow, Bool.and_eq_true, decide_eq_true_eq, List.all_eq_true, rowIn_iff] at h
  exact ⟨h.1, fun r hr => (h.2 r hr).1, fun r hr => (h.2 r hr).2⟩

theorem l2Functional_spec (f : List (List Int)) (kf : SzM f) : FSpec Tryz.prog 81 [.c (.int .i64 (2)), .c (.int .i64 (2)), .t (.rows f)] (ex (.c (.bool (fnB f))) []) := by
  obtain ⟨k1, k2, k3⟩ := kf.all
  refine fspec tyOk mx Tryz.func81 rfl (by kernel_rfl) rfl ?_
  conv => whnf
  refine ACall.use (l2Sizes_spec 2 2) ?_
  conv => whnf
  first | refine ⟨fun h => absurd h (by decide), fun _ => ?_⟩ | refine ⟨fun _ => ?_, fun h => absurd h (by decide)⟩
  conv => whnf
  refine ⟨fun h => ?_, fun h => ?_⟩
  · have h : ¬ f.length = 4 := by
      intro e
      rw [e] at h
      exact absurd h (by decide)
    conv => whnf
    refine ⟨?_, rfl⟩
    rw [fnB, decide_eq_false h, Bool.false_and]
  · have h0 : f.length = 4 := by
      have h : ((f.length : Int) != IntKind.i64.wrap (2 * 2)) = false := h
      rw [w64 (by omega) (by omega)] at h
      have : (f.length : Int) = 2 * 2 := by simpa using h
      omega
    clear h
    conv => whnf
    refine aloopI tyOk mx (fun i : Nat => (⟨51, [(2, .t (.rows f)), (7, .c (.int .i64 (i)))], [], 0⟩ : St)) (fun i => i ≤ f.length ∧ (f.take i).all fnRow = true) (fun i => f.length - i) 0 ⟨Nat.zero_le _, rfl⟩ none (by refine ⟨rfl, rfl, ?_, ?_⟩ <;> ((repeat' (first | exact trivial | exact rfl | refine And.intro ?_ ?_)) <;> (try ((conv => whnf); first | refine vint ?_ | refine vboo ?_ | refine rint ?_ | refine rrow ?_ | skip)) <;> (try first | omega | (simp; done) | ((repeat rw [flts_closed _ (by assumption)]); exact vws_closed _ (by assumption))))) (fun i hi => ?_)
    obtain ⟨hi, hp⟩ := hi
    refine ⟨fun h => ?_, fun h => ?_⟩
    · have h : i < f.length := by have := ltT h; omega
      have hri := k2 _ (getD_mem (d := []) h)
      conv => whnf
      refine aloopI tyOk mx (fun n : Nat => (⟨51, [(2, .t (.rows f)), (7, .c (.int .i64 (i))), (8, .c (.int .i64 (n)))], [], 0⟩ : St)) (fun n => n ≤ (f.getD i []).length ∧ ((f.getD i []).take n).all (fun x => inR x (-99) 99) = true) (fun n => (f.getD i []).length - n) 0 ⟨Nat.zero_le _, rfl⟩ none (by refine ⟨rfl, rfl, ?_, ?_⟩ <;> ((repeat' (first | exact trivial | exact rfl | refine And.intro ?_ ?_)) <;> (try ((conv => whnf); first | refine vint ?_ | refine vboo ?_ | refine rint ?_ | refine rrow ?_ | skip)) <;> (try first | omega | (simp; done) | ((repeat rw [flts_closed _ (by assumption)]); exact vws_closed _ (by assumption))))) (fun n hn => ?_)
      obtain ⟨hn, hq⟩ := hn
      refine ⟨i, rfl, h, ?_⟩
      conv => whnf
      refine ⟨fun h2 => ?_, fun h2 => ?_⟩
      · have h2 : n < (f.getD i []).length := by have := ltT h2; omega
        conv => whnf
        refine ⟨i, rfl, h, n, rfl, h2, ?_⟩
        conv => whnf
        refine ACall.use (l1In_spec _ _ _) ?_
        conv => whnf
        refine ⟨fun h3 => ?_, fun h3 => ?_⟩
        · have h3 : inR ((f.getD i []).getD n 0) (-99) 99 = false := by simpa using h3
          conv => whnf
          refine ⟨?_, rfl⟩
          rw [fnB, all_false (d := []) h (by rw [fnRow, rowIn, all_false (d := 0) h2 h3, Bool.and_false]), Bool.and_false]
        · have h3 : inR ((f.getD i []).getD n 0) (-99) 99 = true := by simpa using h3
          conv => whnf
          rw [nat_wrap (by omega)]
          exact ⟨n + 1, none, (by refine ⟨rfl, rfl, ?_, ?_⟩ <;> ((repeat' (first | exact trivial | exact rfl | refine And.intro ?_ ?_)) <;> (try ((conv => whnf); first | refine vint ?_ | refine vboo ?_ | refine rint ?_ | refine rrow ?_ | skip)) <;> (try first | omega | (simp; done) | ((repeat rw [flts_closed _ (by assumption)]); exact vws_closed _ (by assumption))))), ⟨by omega, all_take_succ (d := 0) h2 hq h3⟩, by omega⟩
      · have h2 : ¬ n < (f.getD i []).length := by have := ltF h2; omega
        have hrow : rowIn (f.getD i []) (-99) 99 = true := all_end h2 hq
        conv => whnf
        refine ⟨i, rfl, h, ?_⟩
        conv => whnf
        refine ⟨fun h3 => ?_, fun h3 => ?_⟩
        · have h3 : ¬ (f.getD i []).length = 4 := by
            intro e; rw [e] at h3; exact absurd h3 (by decide)
          conv => whnf
          refine ⟨?_, rfl⟩
          rw [fnB, all_false (d := []) h (by rw [fnRow, decide_eq_false h3, Bool.false_and]), Bool.and_false]
        · have h3 : (f.getD i []).length = 4 := by
            have : ((f.getD i []).length : Int) = 4 := by simpa using h3
            omega
          conv => whnf
          rw [nat_wrap (by omega)]
          exact ⟨i + 1, none, (by refine ⟨rfl, rfl, ?_, ?_⟩ <;> ((repeat' (first | exact trivial | exact rfl | refine And.intro ?_ ?_)) <;> (try ((conv => whnf); first | refine vint ?_ | refine vboo ?_ | refine rint ?_ | refine rrow ?_ | skip)) <;> (try first | omega | (simp; done) | ((repeat rw [flts_closed _ (by assumption)]); exact vws_closed _ (by assumption))))), ⟨by omega, all_take_succ (d := []) h hp (by rw [fnRow, hrow, decide_eq_true h3]; rfl)⟩, by omega⟩
    · have h : ¬ i < f.length := by have := ltF h; omega
      conv => whnf
      refine ⟨?_, rfl⟩
      rw [fnB, decide_eq_true h0, all_end h hp]; rfl

theorem isFunctional_spec (f : List (List Int)) (kf : SzM f) : FSpec Tryz.prog 78 [.c (.int .i64 (2)), .c (.int .i64 (2)), .t (.rows f)] (ex (.c (.bool (fnB f))) []) := by
  obtain ⟨k1, k2, k3⟩ := kf.all
  refine fspec tyOk mx Tryz.func78 rfl (by kernel_rfl) rfl ?_
  conv => whnf
  refine aloopI tyOk mx (fun i : Nat => (⟨35, [(0, .c (.int .i64 (2))), (1, .c (.int .i64 (2))), (2, .t (.rows f)), (9, .t (.rows f)), (10, .c (.int .i64 (f.length))), (11, .c (.int .i64 (i)))], [], 0⟩ : St)) (fun i => i ≤ f.length ∧ (f.take i).all fnRow = true) (fun i => f.length - i) 0 ⟨Nat.zero_le _, rfl⟩ none (by refine ⟨rfl, rfl, ?_, ?_⟩ <;> ((repeat' (first | exact trivial | exact rfl | refine And.intro ?_ ?_)) <;> (try ((conv => whnf); first | refine vint ?_ | refine vboo ?_ | refine rint ?_ | refine rrow ?_ | skip)) <;> (try first | omega | (simp; done) | ((repeat rw [flts_closed _ (by assumption)]); exact vws_closed _ (by assumption))))) (fun i hi => ?_)
  obtain ⟨hi, hp⟩ := hi
  refine ⟨fun h => ?_, fun h => ?_⟩
  · have h : i < f.length := by have := ltT h; omega
    have hri := k2 _ (getD_mem (d := []) h)
    conv => whnf
    refine ⟨i, rfl, h, ?_⟩
    conv => whnf
    refine ⟨fun h3 => ?_, fun h3 => ?_⟩
    · have h3 : (f.getD i []).length = 4 := by
        have : ((f.getD i []).length : Int) = 4 := by simpa using h3
        omega
      conv => whnf
      refine ACall.use (allWithin_spec (f.getD i []) _ _ (by omega)) ?_
      conv => whnf
      refine ⟨fun h4 => ?_, fun h4 => ?_⟩
      · have h4 : rowIn (f.getD i []) (-99) 99 = false := by simpa using h4
        conv => whnf
        refine ⟨?_, rfl⟩
        rw [fnB, all_false (d := []) h (by rw [fnRow, h4, Bool.and_false]), Bool.and_false]
      · have h4 : rowIn (f.getD i []) (-99) 99 = true := by simpa using h4
        conv => whnf
        rw [nat_wrap (by omega)]
        exact ⟨i + 1, none, (by refine ⟨rfl, rfl, ?_, ?_⟩ <;> ((repeat' (first | exact trivial | exact rfl | refine And.intro ?_ ?_)) <;> (try ((conv => whnf); first | refine vint ?_ | refine vboo ?_ | refine rint ?_ | refine rrow ?_ | skip)) <;> (try first | omega | (simp; done) | ((repeat rw [flts_closed _ (by assumption)]); exact vws_closed _ (by assumption))))), ⟨by omega, all_take_succ (d := []) h hp (by rw [fnRow, h4, decide_eq_true h3]; rfl)⟩, by omega⟩
    · have h3 : ¬ (f.getD i []).length = 4 := by
        intro e; rw [e] at h3; exact absurd h3 (by decide)
      conv => whnf
      (repeat (conv => whnf); (first | refine ⟨fun h => absurd h (by decide), fun _ => ?_⟩ | refine ⟨fun _ => ?_, fun h => absurd h (by decide)⟩)); conv => whnf
      refine ⟨?_, rfl⟩
      rw [fnB, all_false (d := []) h (by rw [fnRow, decide_eq_false h3, Bool.false_and]), Bool.and_false]
  · have h : ¬ i < f.length := by have := ltF h; omega
    have hall := all_end h hp
    conv => whnf
    refine ACall.use (areQuestions_spec 2 2) ?_
    conv => whnf
    first | refine ⟨fun h => absurd h (by decide), fun _ => ?_⟩ | refine ⟨fun _ => ?_, fun h => absurd h (by decide)⟩
    conv => whnf
    refine ⟨?_, rfl⟩
    rw [fnB, hall, Bool.and_true]
    congr 1
    rw [show IntKind.i64.wrap (2 * 2) = 4 from rfl]
    by_cases e : f.length = 4
    · rw [e]; rfl
    · rw [decide_eq_false e]
      have : ¬ (f.length : Int) = 4 := by omega
      simp [this]
end Go.Proofs.YtkomndcehdneaaaGreat
/- WorthRange, reference and program. -/
namespace Go.Proofs.YtkomndcehdneaaaGreat
open Go.Aw
set_option maxRecDepth 100000
set_option maxHeartbeats 4000000

def exW (f : List (List Int)) (i : Nat) : Int := worthF f (exRow i)
def wLo (f : List (List Int)) : Nat → Int
  | 0 => exW f 0
  | i + 1 => min (wLo f i) (exW f i)
def wHi (f : List (List Int)) : Nat → Int
  | 0 => exW f 0
  | i + 1 => max (wHi f i) (exW f i)
theorem wLo_one (f : List (List Int)) : wLo f 1 = exW f 0 := by simp [wLo]
theorem wHi_one (f : List (List Int)) : wHi f 1 = exW f 0 := by simp [wHi]
theorem exW_spec (f : List (List Int)) (hf : f.length = 4) (h4 : ∀ r, r ∈ f → r.length = 4) (i : Nat) (x y z : Int) : FSpec Tryz.prog 82 [.t (.rows f), .ag [.c (.int .i64 (x)), .c (.int .i64 (y)), .c (.int .i64 (z)), .t (.rows (exRow i))]] (ex (.c (.int .i64 (exW f i))) []) :=
  l2Worth_spec f (exRow i) x y z (by rw [exRow_len, hf]) (by rw [exRow_len]; omega) h4 (exRow_rows i)
theorem exWi_spec (f : List (List Int)) (hf : f.length = 4) (h4 : ∀ r, r ∈ f → r.length = 4) (i : Nat) : FSpec Tryz.prog 79 [.t (.rows f), .t (.rows (exRow i))] (ex (.c (.int .i64 (exW f i))) []) :=
  worth_spec f (exRow i) (by rw [exRow_len, hf]) (by rw [exRow_len]; omega) h4 (exRow_rows i)

def wrLo (f : List (List Int)) : Int := if fnB f then wLo f 24 else 0
def wrHi (f : List (List Int)) : Int := if fnB f then wHi f 24 else 0

theorem WorthRange_s (f : List (List Int)) (_hf : OkM f) (kf : SzM f) : FSpec Tryz.prog 31 [.t (.rows f)] (ex (.tu [.c (.int .i64 (wrLo f)), .c (.int .i64 (wrHi f)), .c (.bool (fnB f))]) []) := by
  have hl := exL_len 24
  refine fspec tyOk mx Tryz.func31 rfl (by kernel_rfl) rfl ?_
  conv => whnf
  refine ACall.use (l2Functional_spec f kf) ?_
  conv => whnf
  refine ⟨fun h => ?_, fun h => ?_⟩
  · have h : fnB f = false := by simpa using h
    conv => whnf
    exact ⟨by rw [wrLo, wrHi, h]; rfl, rfl⟩
  · have h : fnB f = true := by simpa using h
    obtain ⟨g1, g2, _⟩ := fnB_spec h
    conv => whnf
    refine ACall.use l6Extremes_spec ?_
    conv => whnf
    refine ADraw.std tyOk mx ⟨by kernel_rfl, 0, rfl, by omega, ?_⟩
    conv => whnf
    rw [exL_get (i := 0) (by omega)]
    refine QCall.use (exW_spec f g1 g2 0 2 2 2) ?_
    conv => whnf
    refine ⟨0, rfl, by omega, ?_⟩
    conv => whnf
    rw [exL_get (i := 0) (by omega)]
    refine QCall.use (exW_spec f g1 g2 0 2 2 2) ?_
    conv => whnf
    refine aloopI tyOk mx (fun i : Nat => (⟨47, [(0, .t (.rows f)), (5, .t (.recs 3 (exL 24))), (6, .c (.int .i64 (wLo f i))), (7, .c (.int .i64 (wHi f i))), (8, .c (.int .i64 (i)))], [], 0⟩ : St)) (fun i => 1 ≤ i ∧ i ≤ 24) (fun i => 24 - i) 1 ⟨by omega, by omega⟩ none (by (refine ⟨rfl, rfl, ?_, ?_⟩ <;> ((repeat' (first | exact trivial | exact rfl | refine And.intro ?_ ?_)) <;> (try ((conv => whnf); first | refine vint ?_ | refine vboo ?_ | refine rint ?_ | refine rrow ?_ | skip)) <;> (try first | omega | (simp; done) | ((repeat rw [flts_closed _ (by assumption)]); exact vws_closed _ (by assumption))))); all_goals first | exact (wLo_one f).symm | exact (wHi_one f).symm) (fun i hi => ?_)
    refine ⟨fun h2 => ?_, fun h2 => ?_⟩
    · have h2 : i < 24 := by have := ltT h2; omega
      conv => whnf
      refine ⟨i, rfl, by omega, ?_⟩
      conv => whnf
      rw [exL_get h2]
      refine ACall.use (exW_spec f g1 g2 i 2 2 2) ?_
      conv => whnf
      refine ACall.use (r1Least_spec _ _) ?_
      conv => whnf
      refine ⟨i, rfl, by omega, ?_⟩
      conv => whnf
      rw [exL_get h2]
      refine ACall.use (exW_spec f g1 g2 i 2 2 2) ?_
      conv => whnf
      refine ACall.use (r1Most_spec _ _) ?_
      conv => whnf
      rw [nat_wrap (by omega)]
      exact ⟨i + 1, none, (by refine ⟨rfl, rfl, ?_, ?_⟩ <;> ((repeat' (first | exact trivial | exact rfl | refine And.intro ?_ ?_)) <;> (try ((conv => whnf); first | refine vint ?_ | refine vboo ?_ | refine rint ?_ | refine rrow ?_ | skip)) <;> (try first | omega | (simp; done) | ((repeat rw [flts_closed _ (by assumption)]); exact vws_closed _ (by assumption))))), by omega, by omega⟩
    · have h2 : ¬ i < 24 := by have := ltF h2; omega
      obtain rfl : i = 24 := by omega
      conv => whnf
      exact ⟨by rw [wrLo, wrHi, h]; rfl, rfl⟩

theorem WorthRange_i (f : List (List Int)) (_hf : OkM f) (kf : SzM f) : FSpec Tryz.prog 30 [.t (.rows f)] (ex (.tu [.c (.int .i64 (wrLo f)), .c (.int .i64 (wrHi f)), .c (.bool (fnB f))]) []) := by
  refine fspec tyOk mx Tryz.func30 rfl (by kernel_rfl) rfl ?_
  conv => whnf
  refine ACall.use (isFunctional_spec f kf) ?_
  conv => whnf
  refine ⟨fun h => ?_, fun h => ?_⟩
  · have h : fnB f = false := by simpa using h
    conv => whnf
    exact ⟨by rw [wrLo, wrHi, h]; rfl, rfl⟩
  · have h : fnB f = true := by simpa using h
    obtain ⟨g1, g2, _⟩ := fnB_spec h
    conv => whnf
    refine ACall.use (extreme_spec 0 (by omega)) ?_
    conv => whnf
    refine ACall.use (exWi_spec f g1 g2 0) ?_
    conv => whnf
    refine aloopI tyOk mx (fun i : Nat => (⟨34, [(0, .t (.rows f)), (5, .c (.int .i64 (wLo f i))), (6, .c (.int .i64 (wHi f i))), (17, .c (.int .i64 (i)))], [], 0⟩ : St)) (fun i => i ≤ 24) (fun i => 24 - i) 0 (Nat.zero_le _) none (by refine ⟨rfl, rfl, ?_, ?_⟩ <;> ((repeat' (first | exact trivial | exact rfl | refine And.intro ?_ ?_)) <;> (try ((conv => whnf); first | refine vint ?_ | refine vboo ?_ | refine rint ?_ | refine rrow ?_ | skip)) <;> (try first | omega | (simp; done) | ((repeat rw [flts_closed _ (by assumption)]); exact vws_closed _ (by assumption))))) (fun i hi => ?_)
    refine ⟨fun h2 => ?_, fun h2 => ?_⟩
    · have h2 : i < 24 := by have := of_decide_eq_true h2; omega
      conv => whnf
      refine ACall.use (extreme_spec i h2) ?_
      conv => whnf
      refine ACall.use (exWi_spec f g1 g2 i) ?_
      conv => whnf
      rw [nat_wrap (by omega)]
      refine ⟨i + 1, none, ?_, by omega, by omega⟩
      (refine ⟨rfl, rfl, ?_, ?_⟩ <;> ((repeat' (first | exact trivial | exact rfl | refine And.intro ?_ ?_)) <;> (try ((conv => whnf); first | refine vint ?_ | refine vboo ?_ | refine rint ?_ | refine rrow ?_ | skip)) <;> (try first | omega | (simp; done) | ((repeat rw [flts_closed _ (by assumption)]); exact vws_closed _ (by assumption)))))
      · exact mn_eq _ _
      · exact mx_eq _ _
    · have h2 : ¬ i < 24 := by have := of_decide_eq_false h2; omega
      obtain rfl : i = 24 := by omega
      conv => whnf
      exact ⟨by rw [wrLo, wrHi, h]; rfl, rfl⟩
end Go.Proofs.YtkomndcehdneaaaGreat
/- The best extreme box of a game: reference and program. -/
namespace Go.Aw
theorem wRow_bd {f m : List (List Int)} {i : Nat} (hf : ∀ k, 0 ≤ (f.getD i []).getD k 0 ∧ (f.getD i []).getD k 0 ≤ 99) (hm : ∀ k, 0 ≤ (m.getD i []).getD k 0 ∧ (m.getD i []).getD k 0 ≤ 2) {a : Int} (h0 : 0 ≤ a) (h1 : a ≤ 10000) :
    ∀ n : Nat, n ≤ 4 → 0 ≤ wRow f m i a n ∧ wRow f m i a n ≤ a + 198 * (n : Int)
  | 0, _ => ⟨h0, by show a ≤ _; omega⟩
  | n + 1, hn => by
    obtain ⟨g1, g2⟩ := wRow_bd hf hm h0 h1 n (by omega)
    have hp := Int.mul_nonneg (hf n).1 (hm n).1
    have hq : (f.getD i []).getD n 0 * (m.getD i []).getD n 0 ≤ 99 * 2 := Int.mul_le_mul (hf n).2 (hm n).2 (hm n).1 (by omega)
    have e1 : W ((f.getD i []).getD n 0 * (m.getD i []).getD n 0) = (f.getD i []).getD n 0 * (m.getD i []).getD n 0 := w64 (by omega) (by omega)
    have e : wRow f m i a (n + 1) = W (wRow f m i a n + W ((f.getD i []).getD n 0 * (m.getD i []).getD n 0)) := rfl
    rw [e, e1]
    generalize (f.getD i []).getD n 0 * (m.getD i []).getD n 0 = z at hp hq
    have e2 : W (wRow f m i a n + z) = wRow f m i a n + z := w64 (by omega) (by omega)
    rw [e2]
    omega
theorem wTo_bd {f m : List (List Int)} (hf : ∀ i k, 0 ≤ (f.getD i []).getD k 0 ∧ (f.getD i []).getD k 0 ≤ 99) (hm : ∀ i k, 0 ≤ (m.getD i []).getD k 0 ∧ (m.getD i []).getD k 0 ≤ 2) :
    ∀ n : Nat, n ≤ 9 → 0 ≤ wTo f m n ∧ wTo f m n ≤ 792 * (n : Int)
  | 0, _ => ⟨Int.le_refl _, Int.le_refl _⟩
  | n + 1, hn => by
    obtain ⟨g1, g2⟩ := wTo_bd hf hm n (by omega)
    have := wRow_bd (i := n) (hf n) (hm n) g1 (by omega) 4 (Nat.le_refl _)
    have e : wTo f m (n + 1) = wRow f m n (wTo f m n) 4 := rfl
    rw [e]
    omega
end Go.Aw
namespace Go.Proofs.YtkomndcehdneaaaGreat
open Go.Aw
set_option maxRecDepth 100000
set_option maxHeartbeats 4000000

theorem exRow_good {i : Nat} (h : i < 24) : goodB 2 2 2 (exRow i) = true := by
  have : ∀ i : Nat, i < 24 → goodB 2 2 2 (exRow i) = true := by decide +kernel
  exact this i h
theorem exRow_sz (i : Nat) : SzM (exRow i) := by
  have h1 := exRow_len i
  have h2 := tot_le_mul (m := exRow i) (n := 4) (fun q hq => by rw [exRow_rows i q hq]; omega)
  unfold SzM; omega
theorem ent_bd {m : List (List Int)} {a b : Int} (ha : a ≤ 0) (hb : 0 ≤ b) (h : ∀ r, r ∈ m → ∀ v, v ∈ r → a ≤ v ∧ v ≤ b) (i k : Nat) : a ≤ (m.getD i []).getD k 0 ∧ (m.getD i []).getD k 0 ≤ b := by
  by_cases hi : i < m.length
  · by_cases hk : k < (m.getD i []).length
    · exact h _ (getD_mem hi) _ (getD_mem hk)
    · rw [List.getD_eq_getElem?_getD (l := m.getD i []), List.getElem?_eq_none (by omega)]
      exact ⟨ha, hb⟩
  · rw [List.getD_eq_getElem?_getD (l := m), List.getElem?_eq_none (by omega)]
    exact ⟨by simpa using ha, by simpa using hb⟩
theorem funG_ent {s : List Int} {m : List (List Int)} (hs : ∀ v, v ∈ s → 0 ≤ v ∧ v ≤ 99) (hm : ∀ r, r ∈ m → ∀ v, v ∈ r → 0 ≤ v ∧ v ≤ 1) : ∀ r, r ∈ funG s m → ∀ v, v ∈ r → 0 ≤ v ∧ v ≤ 99 := fun r hr v hv => by
  obtain ⟨i, hi, rfl⟩ := List.mem_map.1 hr
  obtain ⟨w, hw, rfl⟩ := List.mem_map.1 hv
  have h1 := hm _ (getD_mem (d := []) (by simpa using hi)) w hw
  have h2 : 0 ≤ s.getD i 0 ∧ s.getD i 0 ≤ 99 := by
    by_cases hk : i < s.length
    · exact hs _ (getD_mem hk)
    · rw [List.getD_eq_getElem?_getD, List.getElem?_eq_none (by omega)]; exact ⟨Int.le_refl _, by decide⟩
  have hp := Int.mul_nonneg h1.1 h2.1
  have hq : w * s.getD i 0 ≤ 1 * 99 := Int.mul_le_mul h1.2 h2.2 h2.1 (by omega)
  have e : W (w * s.getD i 0) = w * s.getD i 0 := w64 (by omega) (by omega)
  rw [e]; omega
theorem exW_pos {s : List Int} {m : List (List Int)} (hs : ∀ v, v ∈ s → 0 ≤ v ∧ v ≤ 99) (hm : ∀ r, r ∈ m → ∀ v, v ∈ r → 0 ≤ v ∧ v ≤ 1) {i : Nat} (hi : i < 24) : 0 ≤ exW (funG s m) i := by
  obtain ⟨_, _, _, _, _, _, _, _, _, _, _, _, q9⟩ := goodB_spec (exRow_good hi)
  have := wTo_bd (f := funG s m) (m := exRow i) (fun i k => ent_bd (by omega) (by omega) (funG_ent hs hm) i k) (fun i k => ent_bd (by omega) (by omega) (fun r hr => (q9 r hr).2.1) i k) 4 (by omega)
  rw [exW, worthF, exRow_len]
  exact this.1

def qgOk (x y : Int) (s : List Int) (m : List (List Int)) : Bool := goodG x y s m && (decide (x = 2) && decide (y = 2))
theorem qgOk_spec {x y : Int} {s : List Int} {m : List (List Int)} (h : qgOk x y s m = true) : x = 2 ∧ y = 2 ∧ goodG x y s m = true ∧ s.length = 4 ∧ m.length = 4 ∧ (∀ v, v ∈ s → 0 ≤ v ∧ v ≤ 99) ∧ (∀ r, r ∈ m → r.length = 4) ∧ (∀ r, r ∈ m → ∀ v, v ∈ r → 0 ≤ v ∧ v ≤ 1) := by
  simp only [qgOk, Bool.and_eq_true, decide_eq_true_eq] at h
  obtain ⟨h1, h2, h3⟩ := h
  obtain ⟨a, b, e1, e2, _, _, _, _, g5, g6, g7, g8, g9, g10⟩ := goodG_spec h1
  obtain rfl : a = 2 := by omega
  obtain rfl : b = 2 := by omega
  exact ⟨h2, h3, h1, g5, g6, g8, fun r hr => (g10 r hr).1, fun r hr => (g10 r hr).2⟩
def qbI (s : List Int) (m : List (List Int)) : Nat := bIx (exW (funG s m)) 23
def qvB (x y : Int) (s : List Int) (m : List (List Int)) : Int := if qgOk x y s m then (qbI s m : Int) else 0
def qvV (x y : Int) (s : List Int) (m : List (List Int)) : Int := if qgOk x y s m then exW (funG s m) (qbI s m) else 0

theorem l6Best_spec (f : List (List Int)) (hf : f.length = 4) (h4 : ∀ r, r ∈ f → r.length = 4) : FSpec Tryz.prog 96 [.t (.rows f)] (ex (.c (.int .i64 (bIx (exW f) 23))) []) := by
  have hl := exL_len 24
  refine fspec tyOk mx Tryz.func96 rfl (by kernel_rfl) rfl ?_
  conv => whnf
  refine ACall.use l6Extremes_spec ?_
  conv => whnf
  refine aloopI tyOk mx (fun j : Nat => (⟨28, [(0, .t (.rows f)), (3, .t (.recs 3 (exL 24))), (4, .c (.int .i64 (bIx (exW f) j))), (5, .c (.int .i64 ((j + 1 : Nat))))], [], 0⟩ : St)) (fun j => j ≤ 23) (fun j => 23 - j) 0 (Nat.zero_le _) none (by refine ⟨rfl, rfl, ?_, ?_⟩ <;> ((repeat' (first | exact trivial | exact rfl | refine And.intro ?_ ?_)) <;> (try ((conv => whnf); first | refine vint ?_ | refine vboo ?_ | refine rint ?_ | refine rrow ?_ | skip)) <;> (try first | omega | (simp; done) | ((repeat rw [flts_closed _ (by assumption)]); exact vws_closed _ (by assumption))))) (fun j hj => ?_)
  have hb := bIx_le (exW f) j
  refine ⟨fun h => ?_, fun h => ?_⟩
  · have h : j + 1 < 24 := by have := ltT h; omega
    conv => whnf
    refine ADraw.std tyOk mx ⟨by kernel_rfl, j + 1, rfl, by omega, ?_⟩
    conv => whnf
    rw [exL_get h]
    refine QCall.use (exW_spec f hf h4 (j + 1) 2 2 2) ?_
    conv => whnf
    refine ⟨bIx (exW f) j, rfl, by omega, ?_⟩
    conv => whnf
    rw [exL_get (i := bIx (exW f) j) (by omega)]
    refine QCall.use (exW_spec f hf h4 (bIx (exW f) j) 2 2 2) ?_
    conv => whnf
    refine ⟨fun h2 => ?_, fun h2 => ?_⟩
    · have h2 := of_decide_eq_true h2
      have e : bIx (exW f) (j + 1) = j + 1 := by rw [bIx, if_pos h2]
      conv => whnf
      rw [nat_wrap (by omega)]
      refine ⟨j + 1, none, ?_, by omega, by omega⟩
      (refine ⟨rfl, rfl, ?_, ?_⟩ <;> ((repeat' (first | exact trivial | exact rfl | refine And.intro ?_ ?_)) <;> (try ((conv => whnf); first | refine vint ?_ | refine vboo ?_ | refine rint ?_ | refine rrow ?_ | skip)) <;> (try first | omega | (simp; done) | ((repeat rw [flts_closed _ (by assumption)]); exact vws_closed _ (by assumption)))))
      all_goals rw [e]
    · have h2 := of_decide_eq_false h2
      have e : bIx (exW f) (j + 1) = bIx (exW f) j := by rw [bIx, if_neg h2]
      conv => whnf
      rw [nat_wrap (by omega)]
      refine ⟨j + 1, none, ?_, by omega, by omega⟩
      (refine ⟨rfl, rfl, ?_, ?_⟩ <;> ((repeat' (first | exact trivial | exact rfl | refine And.intro ?_ ?_)) <;> (try ((conv => whnf); first | refine vint ?_ | refine vboo ?_ | refine rint ?_ | refine rrow ?_ | skip)) <;> (try first | omega | (simp; done) | ((repeat rw [flts_closed _ (by assumption)]); exact vws_closed _ (by assumption)))))
      all_goals rw [e]
  · have h : ¬ j + 1 < 24 := by have := ltF h; omega
    obtain rfl : j = 23 := by omega
    conv => whnf
    exact ⟨rfl, rfl⟩

theorem l6Game_spec (x y : Int) (s : List Int) (m : List (List Int)) (ks : SzI s) (km : SzM m) : FSpec Tryz.prog 93 [.ag [.c (.int .i64 (x)), .c (.int .i64 (y)), .t (.ints .i64 s), .t (.rows m)]] (ex (.c (.bool (qgOk x y s m))) []) := by
  refine fspec tyOk mx Tryz.func93 rfl (by kernel_rfl) rfl ?_
  conv => whnf
  refine ACall.use (l4Game_spec x y s m ks km) ?_
  conv => whnf
  refine ⟨fun h => ?_, fun h => ?_⟩
  · have h : goodG x y s m = true := by simpa using h
    conv => whnf
    refine ⟨fun h2 => ?_, fun h2 => ?_⟩
    · have h2 : x = 2 := by simpa using h2
      conv => whnf
      refine ⟨?_, rfl⟩
      rw [qgOk, h, decide_eq_true h2]
      by_cases h3 : y = 2
      · rw [decide_eq_true h3, h3]; rfl
      · rw [decide_eq_false h3]
        have : (y == 2) = false := by simpa using h3
        rw [this]; rfl
    · have h2 : ¬ x = 2 := by simpa using h2
      (repeat (conv => whnf); (first | refine ⟨fun h => absurd h (by decide), fun _ => ?_⟩ | refine ⟨fun _ => ?_, fun h => absurd h (by decide)⟩)); conv => whnf
      refine ⟨?_, rfl⟩
      rw [qgOk, decide_eq_false h2, Bool.false_and, Bool.and_false]
  · have h : goodG x y s m = false := by simpa using h
    (repeat (conv => whnf); (first | refine ⟨fun h => absurd h (by decide), fun _ => ?_⟩ | refine ⟨fun _ => ?_, fun h => absurd h (by decide)⟩)); conv => whnf
    refine ⟨?_, rfl⟩
    rw [qgOk, h, Bool.false_and]

def qM (f : List (List Int)) : Nat → Int
  | 0 => -1
  | i + 1 => exW f (bIx (exW f) i)
theorem qM_same {f : List (List Int)} {i : Nat} (hb : bIx (exW f) i = bIx (exW f) (i - 1)) (h1 : 1 ≤ i) : qM f i = qM f (i + 1) := by
  obtain ⟨k, rfl⟩ : ∃ k, i = k + 1 := ⟨i - 1, by omega⟩
  show exW f (bIx (exW f) k) = exW f (bIx (exW f) (k + 1))
  rw [hb]; rfl
theorem quietBest_spec (x y : Int) (s : List Int) (m : List (List Int)) (ks : SzI s) (km : SzM m) (h : qgOk x y s m = true) :
    FSpec Tryz.prog 92 [.ag [.c (.int .i64 (x)), .c (.int .i64 (y)), .t (.ints .i64 s), .t (.rows m)]] (ex (.tu [.c (.int .i64 (qbI s m)), .c (.int .i64 (exW (funG s m) (qbI s m)))]) []) := by
  obtain ⟨rfl, rfl, h0, hs, hm, hs2, hm4, hm2⟩ := qgOk_spec h
  have step : ∀ i : Nat, i < 24 → (exW (funG s m) i > qM (funG s m) i → bIx (exW (funG s m)) i = i) ∧ (¬ exW (funG s m) i > qM (funG s m) i → bIx (exW (funG s m)) i = bIx (exW (funG s m)) (i - 1) ∧ 1 ≤ i) := fun i hi => by
    match i with
    | 0 =>
      refine ⟨fun _ => rfl, fun h => absurd ?_ h⟩
      have := exW_pos hs2 hm2 hi
      show _ > (-1 : Int)
      omega
    | i + 1 =>
      refine ⟨fun h => ?_, fun h => ⟨?_, by omega⟩⟩
      · have h' : exW (funG s m) (i + 1) > exW (funG s m) (bIx (exW (funG s m)) i) := h
        rw [bIx, if_pos h']
      · have h' : ¬ exW (funG s m) (i + 1) > exW (funG s m) (bIx (exW (funG s m)) i) := h
        rw [bIx, if_neg h']; rfl
  refine fspec tyOk mx Tryz.func92 rfl (by kernel_rfl) rfl ?_
  conv => whnf
  refine aloopI tyOk mx (fun i : Nat => (⟨27, [(1, .ptr 0 0), (4, .c (.int .i64 (bIx (exW (funG s m)) (i - 1)))), (5, .c (.int .i64 (qM (funG s m) i))), (9, .c (.int .i64 (i)))], [(0, .cells 41 [.c (.int .i64 (2)), .c (.int .i64 (2)), .t (.ints .i64 s), .t (.rows m)])], 1⟩ : St)) (fun i => i ≤ 24) (fun i => 24 - i) 0 (Nat.zero_le _) none (by refine ⟨rfl, rfl, ?_, ?_⟩ <;> ((repeat' (first | exact trivial | exact rfl | refine And.intro ?_ ?_)) <;> (try ((conv => whnf); first | refine vint ?_ | refine vboo ?_ | refine rint ?_ | refine rrow ?_ | skip)) <;> (try first | omega | (simp; done) | ((repeat rw [flts_closed _ (by assumption)]); exact vws_closed _ (by assumption))))) (fun i hi => ?_)
  refine ⟨fun h2 => ?_, fun h2 => ?_⟩
  · have h2 : i < 24 := by have := of_decide_eq_true h2; omega
    have eOk : gbOk 2 2 s m 2 2 2 (exRow i) = true := by rw [gbOk, h0, exRow_good h2]; rfl
    have eV : gbV 2 2 s m 2 2 2 (exRow i) = exW (funG s m) i := by rw [gbV, eOk]; rfl
    obtain ⟨st1, st2⟩ := step i h2
    conv => whnf
    refine ADraw.plan tyOk mx (.q 0 (.q 1 (.last 2 (.last 3 (.q 4 (.q 5 (.q 6 (.q 7 (.q 8 (.done))))))))) : Plan) (by kernel_rfl) ?_
    conv => whnf
    refine ACall.useR (extreme_spec i h2) ?_
    conv => whnf
    refine ACall.useR (iBoxScore_spec 2 2 s m 2 2 2 (exRow i) ks km (exRow_sz i)) ?_
    rw [eV, eOk]
    conv => whnf
    repeat' (refine And.intro ?_ ?_ <;> (conv => whnf))
    all_goals
      intro h5
      conv => whnf
      rw [nat_wrap (by omega)]
      refine ⟨i + 1, none, ?_, by omega, by omega⟩
      (refine ⟨rfl, rfl, ?_, ?_⟩ <;> ((repeat' (first | exact trivial | exact rfl | refine And.intro ?_ ?_)) <;> (try ((conv => whnf); first | refine vint ?_ | refine vboo ?_ | refine rint ?_ | refine rrow ?_ | skip)) <;> (try first | omega | (simp; done) | ((repeat rw [flts_closed _ (by assumption)]); exact vws_closed _ (by assumption)))))
      all_goals first
        | (have hb := st1 (of_decide_eq_true h5); first | (show (i : Int) = ((bIx (exW (funG s m)) i : Nat) : Int); rw [hb]; done) | (show exW (funG s m) i = exW (funG s m) (bIx (exW (funG s m)) i); rw [hb]; done))
        | (obtain ⟨hb, h1⟩ := st2 (of_decide_eq_false h5); first | (show ((bIx (exW (funG s m)) (i - 1) : Nat) : Int) = ((bIx (exW (funG s m)) i : Nat) : Int); rw [hb]; done) | exact qM_same hb h1)
  · have h2 : ¬ i < 24 := by have := of_decide_eq_false h2; omega
    obtain rfl : i = 24 := by omega
    conv => whnf
    exact ⟨rfl, rfl⟩
end Go.Proofs.YtkomndcehdneaaaGreat
/- QuietBest and QuietValue, reference and program. -/
namespace Go.Proofs.YtkomndcehdneaaaGreat
open Go.Aw
set_option maxRecDepth 100000
set_option maxHeartbeats 4000000

theorem QuietBest_s (x y : Int) (s : List Int) (m : List (List Int)) (_hx : InR x) (_hy : InR y) (_hs : OkI s) (_hm : OkM m) (ks : SzI s) (km : SzM m) :
    FSpec Tryz.prog 28 [.ag [.c (.int .i64 (x)), .c (.int .i64 (y)), .t (.ints .i64 s), .t (.rows m)]] (ex (.tu [.c (.int .i64 (qvB x y s m)), .c (.bool (qgOk x y s m))]) []) := by
  refine fspec tyOk mx Tryz.func28 rfl (by kernel_rfl) rfl ?_
  conv => whnf
  refine ACall.use (l6Game_spec x y s m ks km) ?_
  conv => whnf
  refine ⟨fun h => ?_, fun h => ?_⟩
  · have h : qgOk x y s m = false := by simpa using h
    conv => whnf
    exact ⟨by rw [qvB, h]; rfl, rfl⟩
  · have h : qgOk x y s m = true := by simpa using h
    obtain ⟨_, _, _, hs, hm, _, h4, _⟩ := qgOk_spec h
    have hl : (funG s m).length = 4 := by simp [funG, hm]
    conv => whnf
    refine ACall.use (l4Functional_spec x y s m (by omega) (by omega) h4) ?_
    conv => whnf
    refine ACall.use (l6Best_spec (funG s m) hl (funG_rows h4)) ?_
    conv => whnf
    exact ⟨by rw [qvB, h]; rfl, rfl⟩

theorem QuietValue_s (x y : Int) (s : List Int) (m : List (List Int)) (_hx : InR x) (_hy : InR y) (_hs : OkI s) (_hm : OkM m) (ks : SzI s) (km : SzM m) :
    FSpec Tryz.prog 26 [.ag [.c (.int .i64 (x)), .c (.int .i64 (y)), .t (.ints .i64 s), .t (.rows m)]] (ex (.tu [.c (.int .i64 (qvV x y s m)), .c (.bool (qgOk x y s m))]) []) := by
  have hl24 := exL_len 24
  have hb := bIx_le (exW (funG s m)) 23
  refine fspec tyOk mx Tryz.func26 rfl (by kernel_rfl) rfl ?_
  conv => whnf
  refine ACall.use (l6Game_spec x y s m ks km) ?_
  conv => whnf
  refine ⟨fun h => ?_, fun h => ?_⟩
  · have h : qgOk x y s m = false := by simpa using h
    conv => whnf
    exact ⟨by rw [qvV, h]; rfl, rfl⟩
  · have h : qgOk x y s m = true := by simpa using h
    obtain ⟨_, _, _, hs, hm, _, h4, _⟩ := qgOk_spec h
    have hl : (funG s m).length = 4 := by simp [funG, hm]
    conv => whnf
    refine ACall.use (l4Functional_spec x y s m (by omega) (by omega) h4) ?_
    conv => whnf
    refine ACall.use l6Extremes_spec ?_
    conv => whnf
    refine ACall.use (l6Best_spec (funG s m) hl (funG_rows h4)) ?_
    conv => whnf
    refine ⟨bIx (exW (funG s m)) 23, rfl, by omega, ?_⟩
    conv => whnf
    rw [exL_get (i := bIx (exW (funG s m)) 23) (by omega)]
    refine ACall.use (exW_spec (funG s m) hl (funG_rows h4) (bIx (exW (funG s m)) 23) 2 2 2) ?_
    conv => whnf
    exact ⟨by rw [qvV, h]; rfl, rfl⟩

theorem QuietBest_i (x y : Int) (s : List Int) (m : List (List Int)) (_hx : InR x) (_hy : InR y) (_hs : OkI s) (_hm : OkM m) (ks : SzI s) (km : SzM m) :
    FSpec Tryz.prog 27 [.ag [.c (.int .i64 (x)), .c (.int .i64 (y)), .t (.ints .i64 s), .t (.rows m)]] (ex (.tu [.c (.int .i64 (qvB x y s m)), .c (.bool (qgOk x y s m))]) []) := by
  have no : qgOk x y s m = false → qvB x y s m = 0 := fun h => by rw [qvB, h]; rfl
  refine fspec tyOk mx Tryz.func27 rfl (by kernel_rfl) rfl ?_
  conv => whnf
  refine ACall.use (iIsGame_spec x y s m ks km) ?_
  conv => whnf
  refine ⟨fun h => ?_, fun h => ?_⟩
  · have h : goodG x y s m = true := by simpa using h
    conv => whnf
    refine ACall.use (hasTwo_spec x y) ?_
    conv => whnf
    refine ⟨fun h2 => ?_, fun h2 => ?_⟩
    · have e : qgOk x y s m = false := by
        have h2 : (decide (x = 2) && decide (y = 2)) = false := by simpa only [Bool.not_eq_true'] using h2
        rw [qgOk, h2, Bool.and_false]
      conv => whnf
      exact ⟨by rw [no e, e], rfl⟩
    · have e : qgOk x y s m = true := by
        have h2 : (decide (x = 2) && decide (y = 2)) = true := by simpa only [Bool.not_eq_false'] using h2
        rw [qgOk, h2, h]; rfl
      conv => whnf
      refine ACall.use (quietBest_spec x y s m ks km e) ?_
      conv => whnf
      exact ⟨by rw [qvB, e]; rfl, rfl⟩
  · have h : goodG x y s m = false := by simpa using h
    have e : qgOk x y s m = false := by rw [qgOk, h, Bool.false_and]
    conv => whnf
    (repeat (conv => whnf); (first | refine ⟨fun h => absurd h (by decide), fun _ => ?_⟩ | refine ⟨fun _ => ?_, fun h => absurd h (by decide)⟩)); conv => whnf
    exact ⟨by rw [no e, e], rfl⟩

theorem QuietValue_i (x y : Int) (s : List Int) (m : List (List Int)) (_hx : InR x) (_hy : InR y) (_hs : OkI s) (_hm : OkM m) (ks : SzI s) (km : SzM m) :
    FSpec Tryz.prog 25 [.ag [.c (.int .i64 (x)), .c (.int .i64 (y)), .t (.ints .i64 s), .t (.rows m)]] (ex (.tu [.c (.int .i64 (qvV x y s m)), .c (.bool (qgOk x y s m))]) []) := by
  have no : qgOk x y s m = false → qvV x y s m = 0 := fun h => by rw [qvV, h]; rfl
  refine fspec tyOk mx Tryz.func25 rfl (by kernel_rfl) rfl ?_
  conv => whnf
  refine ACall.use (iIsGame_spec x y s m ks km) ?_
  conv => whnf
  refine ⟨fun h => ?_, fun h => ?_⟩
  · have h : goodG x y s m = true := by simpa using h
    conv => whnf
    refine ACall.use (hasTwo_spec x y) ?_
    conv => whnf
    refine ⟨fun h2 => ?_, fun h2 => ?_⟩
    · have e : qgOk x y s m = false := by
        have h2 : (decide (x = 2) && decide (y = 2)) = false := by simpa only [Bool.not_eq_true'] using h2
        rw [qgOk, h2, Bool.and_false]
      conv => whnf
      exact ⟨by rw [no e, e], rfl⟩
    · have e : qgOk x y s m = true := by
        have h2 : (decide (x = 2) && decide (y = 2)) = true := by simpa only [Bool.not_eq_false'] using h2
        rw [qgOk, h2, h]; rfl
      conv => whnf
      refine ACall.use (quietBest_spec x y s m ks km e) ?_
      conv => whnf
      exact ⟨by rw [qvV, e]; rfl, rfl⟩
  · have h : goodG x y s m = false := by simpa using h
    have e : qgOk x y s m = false := by rw [qgOk, h, Bool.false_and]
    conv => whnf
    (repeat (conv => whnf); (first | refine ⟨fun h => absurd h (by decide), fun _ => ?_⟩ | refine ⟨fun _ => ?_, fun h => absurd h (by decide)⟩)); conv => whnf
    exact ⟨by rw [no e, e], rfl⟩
end Go.Proofs.YtkomndcehdneaaaGreat
/- Functionals of games, lost pairs: reference and program. -/
namespace Go.Aw
def lostC (s : List Int) (m : List (List Int)) (p : List Int) (nx ny i k : Nat) : Bool := decide (s.getD (i * ny + k) 0 > 0) && ((m.getD (i * ny + k) []).getD (bitIx p nx i k) 0 == 0)
def lostRow (s : List Int) (m : List (List Int)) (p : List Int) (nx ny i : Nat) (l : List Int) (n : Nat) : List Int := fo (fun l k => if lostC s m p nx ny i k then l ++ [((i * ny + k : Nat) : Int)] else l) l n
def lostTo (s : List Int) (m : List (List Int)) (p : List Int) (nx ny n : Nat) : List Int := fo (fun l i => lostRow s m p nx ny i l ny) [] n
theorem lostRow_len (s : List Int) (m : List (List Int)) (p : List Int) (nx ny i : Nat) (l : List Int) : ∀ n, (lostRow s m p nx ny i l n).length ≤ l.length + n
  | 0 => by simp [lostRow, fo]
  | n + 1 => by
    have := lostRow_len s m p nx ny i l n
    show (if lostC s m p nx ny i n then lostRow s m p nx ny i l n ++ [((i * ny + n : Nat) : Int)] else lostRow s m p nx ny i l n).length ≤ _
    split
    · rw [List.length_append, List.length_singleton]; omega
    · omega
theorem lostTo_len (s : List Int) (m : List (List Int)) (p : List Int) (nx ny : Nat) : ∀ n, (lostTo s m p nx ny n).length ≤ n * ny
  | 0 => by simp [lostTo, fo]
  | n + 1 => by
    have := lostTo_len s m p nx ny n
    have h2 := lostRow_len s m p nx ny n (lostTo s m p nx ny n) ny
    show (lostRow s m p nx ny n (lostTo s m p nx ny n) ny).length ≤ _
    rw [Nat.succ_mul]; omega
end Go.Aw
namespace Go.Proofs.YtkomndcehdneaaaGreat
open Go.Aw
set_option maxRecDepth 100000
set_option maxHeartbeats 4000000


end Go.Proofs.YtkomndcehdneaaaGreat
/- Best plays: reference and program. -/
namespace Go.Aw
section
variable {P : Program}
/-- (slice, int, bool): nil, 0 where it is false -/
def nilOrN (ok : Bool) (r : ARow) (v : Int) : AVal → List (Nat × ARow) → Prop := fun x h =>
  (ok = false ∧ x = .tu [.c (.slice none 0 0), .c (.int .i64 (0)), .c (.bool false)] ∧ h = []) ∨ (ok = true ∧ x = .tu [.own 0, .c (.int .i64 (v)), .c (.bool true)] ∧ h = [(0, r)])
theorem view_intsN {f : FuncId} {args : List AVal} {ok : Bool} {e : Nat} {k : IntKind} {l : List Int} {v : Int} (h : FSpec P f args (nilOrN ok (.ints e k l) v)) :
    FSpec P f args (ex (.tu [.own 0, .c (.int .i64 (if ok then v else 0)), .c (.bool ok)]) [(0, .ints e k (if ok then l else []))]) := by
  refine FSpec.view h ?_
  rintro x hr (⟨rfl, rfl, rfl⟩ | ⟨rfl, rfl, rfl⟩)
  · exact ⟨[(0, .nil)], .tu [.own 0, .c (.int .i64 (0)), .c (.bool false)], [(0, .ints e k [])], rfl, ⟨rfl, trivial, trivial⟩, ⟨⟨rfl, rfl, rfl⟩, rfl, rfl, trivial⟩, rfl, rfl⟩
  · exact ⟨[(0, .row 0)], .tu [.own 0, .c (.int .i64 (v)), .c (.bool true)], [(0, .ints e k l)], rfl, ⟨rfl, rfl, trivial⟩, ⟨⟨rfl, rfl⟩, rfl, rfl, trivial⟩, rfl, rfl⟩
end
theorem getD_bd {l : List Int} {b : Int} (hb : 0 ≤ b) (h : ∀ v, v ∈ l → 0 ≤ v ∧ v ≤ b) (i : Nat) : 0 ≤ l.getD i 0 ∧ l.getD i 0 ≤ b := by
  by_cases hi : i < l.length
  · exact h _ (by rw [List.getD_eq_getElem?_getD, List.getElem?_eq_getElem hi]; exact List.getElem_mem _)
  · rw [List.getD_eq_getElem?_getD, List.getElem?_eq_none (by omega)]; exact ⟨Int.le_refl _, hb⟩
theorem won_cases {s : List Int} {m : List (List Int)} {p : List Int} (hs : ∀ v, v ∈ s → 0 ≤ v ∧ v ≤ 99) (hm : ∀ r, r ∈ m → r.length = 4 ∧ ∀ v, v ∈ r → 0 ≤ v ∧ v ≤ 1) (nx ny i k : Nat) :
    ((m.getD (i * ny + k) []).getD (bitIx p nx i k) 0 = 0 ∧ wonAt s m p nx ny i k = 0) ∨ ((m.getD (i * ny + k) []).getD (bitIx p nx i k) 0 ≠ 0 ∧ wonAt s m p nx ny i k = s.getD (i * ny + k) 0) := by
  have h1 := getD_bd (by omega) hs (i * ny + k)
  have h2 : 0 ≤ (m.getD (i * ny + k) []).getD (bitIx p nx i k) 0 ∧ (m.getD (i * ny + k) []).getD (bitIx p nx i k) 0 ≤ 1 := by
    by_cases hi : i * ny + k < m.length
    · exact getD_bd (by omega) (hm _ (by rw [List.getD_eq_getElem?_getD, List.getElem?_eq_getElem hi]; exact List.getElem_mem _)).2 _
    · have : m.getD (i * ny + k) [] = [] := by rw [List.getD_eq_getElem?_getD, List.getElem?_eq_none (by omega)]; rfl
      rw [this]; simp
  have h3 : (m.getD (i * ny + k) []).getD (bitIx p nx i k) 0 = 0 ∨ (m.getD (i * ny + k) []).getD (bitIx p nx i k) 0 = 1 := by omega
  rcases h3 with h3 | h3
  · exact .inl ⟨h3, by rw [wonAt, h3, Int.mul_zero]; rfl⟩
  · exact .inr ⟨by omega, by rw [wonAt, h3, Int.mul_one]; exact w64 (by omega) (by omega)⟩
def totRow (s : List Int) (ny i : Nat) (a : Int) (n : Nat) : Int := fo (fun a k => W (a + s.getD (i * ny + k) 0)) a n
def totTo (s : List Int) (ny n : Nat) : Int := fo (fun a i => totRow s ny i a ny) 0 n
theorem totRow_flat (s : List Int) (ny i : Nat) : ∀ k, totRow s ny i (sumF s (i * ny)) k = sumF s (i * ny + k)
  | 0 => rfl
  | k + 1 => by
    show W (totRow s ny i (sumF s (i * ny)) k + s.getD (i * ny + k) 0) = W (sumF s (i * ny + k) + s.getD (i * ny + k) 0)
    rw [totRow_flat s ny i k]
theorem totTo_flat (s : List Int) (ny : Nat) : ∀ n, totTo s ny n = sumF s (n * ny)
  | 0 => by rw [Nat.zero_mul]; rfl
  | n + 1 => by
    show totRow s ny n (totTo s ny n) ny = _
    rw [totTo_flat s ny n, totRow_flat, Nat.succ_mul]
theorem row_cmp {s : List Int} {m : List (List Int)} {p : List Int} (hs : ∀ v, v ∈ s → 0 ≤ v ∧ v ≤ 99) (hm : ∀ r, r ∈ m → r.length = 4 ∧ ∀ v, v ∈ r → 0 ≤ v ∧ v ≤ 1) (nx ny i : Nat) {a t : Int} {l : List Int}
    (h0 : 0 ≤ a) (h1 : a ≤ t) (h2 : t ≤ 100000) (h3 : a = t ↔ l = []) : ∀ n, n ≤ 1000 → 0 ≤ scoreRow s m p nx ny i a n ∧ scoreRow s m p nx ny i a n ≤ totRow s ny i t n ∧ totRow s ny i t n ≤ t + 99 * n ∧
      (scoreRow s m p nx ny i a n = totRow s ny i t n ↔ lostRow s m p nx ny i l n = [])
  | 0, _ => by
    refine ⟨h0, h1, ?_, h3⟩
    show t ≤ t + 99 * ((0 : Nat) : Int)
    omega
  | n + 1, hn => by
    obtain ⟨i0, i1, i2, i3⟩ := row_cmp (p := p) hs hm nx ny i h0 h1 h2 h3 n (by omega)
    have hw := won_cases (p := p) hs hm nx ny i n
    have hb := getD_bd (by omega) hs (i * ny + n)
    have e1 : scoreRow s m p nx ny i a (n + 1) = scoreRow s m p nx ny i a n + wonAt s m p nx ny i n := by
      show W (scoreRow s m p nx ny i a n + wonAt s m p nx ny i n) = _
      exact w64 (by rcases hw with ⟨_, e⟩ | ⟨_, e⟩ <;> omega) (by rcases hw with ⟨_, e⟩ | ⟨_, e⟩ <;> omega)
    have e2 : totRow s ny i t (n + 1) = totRow s ny i t n + s.getD (i * ny + n) 0 := by
      show W (totRow s ny i t n + s.getD (i * ny + n) 0) = _
      exact w64 (by omega) (by omega)
    have e3 : lostRow s m p nx ny i l (n + 1) = if lostC s m p nx ny i n then lostRow s m p nx ny i l n ++ [((i * ny + n : Nat) : Int)] else lostRow s m p nx ny i l n := rfl
    rw [e1, e2, e3]
    rcases hw with ⟨hz, e⟩ | ⟨hz, e⟩
    · by_cases hpos : s.getD (i * ny + n) 0 > 0
      · have hc : lostC s m p nx ny i n = true := by rw [lostC, hz, decide_eq_true hpos]; rfl
        rw [hc, if_pos rfl]
        refine ⟨by omega, by omega, by omega, ⟨fun h => by omega, fun h => by simp at h⟩⟩
      · have hc : lostC s m p nx ny i n = false := by rw [lostC, decide_eq_false hpos]; rfl
        rw [hc, if_neg (by simp)]
        exact ⟨by omega, by omega, by omega, ⟨fun h => i3.1 (by omega), fun h => by have := i3.2 h; omega⟩⟩
    · have hc : lostC s m p nx ny i n = false := by rw [lostC, beq_eq_false_iff_ne.2 hz, Bool.and_false]
      rw [hc, if_neg (by simp)]
      exact ⟨by omega, by omega, by omega, ⟨fun h => i3.1 (by omega), fun h => by have := i3.2 h; omega⟩⟩
theorem to_cmp {s : List Int} {m : List (List Int)} {p : List Int} (hs : ∀ v, v ∈ s → 0 ≤ v ∧ v ≤ 99) (hm : ∀ r, r ∈ m → r.length = 4 ∧ ∀ v, v ∈ r → 0 ≤ v ∧ v ≤ 1) (nx ny : Nat) (hy : ny ≤ 3) : ∀ n, n ≤ 3 →
      0 ≤ scoreTo s m p nx ny n ∧ scoreTo s m p nx ny n ≤ totTo s ny n ∧ totTo s ny n ≤ 300 * n ∧ (scoreTo s m p nx ny n = totTo s ny n ↔ lostTo s m p nx ny n = [])
  | 0, _ => by simp [scoreTo, totTo, lostTo, fo]
  | n + 1, hn => by
    obtain ⟨i0, i1, i2, i3⟩ := to_cmp (p := p) hs hm nx ny hy n (by omega)
    obtain ⟨j0, j1, j2, j3⟩ := row_cmp (p := p) hs hm nx ny n i0 i1 (by omega) i3 ny (by omega)
    have e1 : scoreTo s m p nx ny (n + 1) = scoreRow s m p nx ny n (scoreTo s m p nx ny n) ny := rfl
    have e2 : totTo s ny (n + 1) = totRow s ny n (totTo s ny n) ny := rfl
    have e3 : lostTo s m p nx ny (n + 1) = lostRow s m p nx ny n (lostTo s m p nx ny n) ny := rfl
    rw [e1, e2, e3]
    exact ⟨j0, j1, by omega, j3⟩
def scF (s : List Int) (m : List (List Int)) (nx ny : Nat) (i : Nat) : Int := scoreTo s m ((playsL (nx + ny)).getD i []) nx ny nx
def bestI (s : List Int) (m : List (List Int)) (nx ny : Nat) : Nat := bIx (scF s m nx ny) (2 ^ (nx + ny) - 1)
def bestPl (s : List Int) (m : List (List Int)) (nx ny : Nat) : List Int := (playsL (nx + ny)).getD (bestI s m nx ny) []
theorem bestI_lt (s : List Int) (m : List (List Int)) (nx ny : Nat) : bestI s m nx ny < (playsL (nx + ny)).length := by
  have := bIx_le (scF s m nx ny) (2 ^ (nx + ny) - 1)
  have h2 : 0 < 2 ^ (nx + ny) := Nat.pow_pos (by omega)
  rw [playsL_len]
  unfold bestI
  omega
end Go.Aw
namespace Go.Proofs.YtkomndcehdneaaaGreat
open Go.Aw
set_option maxRecDepth 100000
set_option maxHeartbeats 4000000


def bpRow (x y : Int) (s : List Int) (m : List (List Int)) : List Int := if goodG x y s m then bestPl s m x.toNat y.toNat else []
def bpVal (x y : Int) (s : List Int) (m : List (List Int)) : Int := if goodG x y s m then scF s m x.toNat y.toNat (bestI s m x.toNat y.toNat) else 0
theorem best_bits {nx ny : Nat} (s : List Int) (m : List (List Int)) (h : nx + ny ≤ 6) : (bestPl s m nx ny).length = nx + ny ∧ ∀ v, v ∈ bestPl s m nx ny → 0 ≤ v ∧ v ≤ 1 :=
  playsL_row h (bestI_lt s m nx ny)

theorem iBestPlay_spec (x y : Int) (s : List Int) (m : List (List Int)) (ks : SzI s) (km : SzM m) :
    FSpec Tryz.prog 38 [.ag [.c (.int .i64 (x)), .c (.int .i64 (y)), .t (.ints .i64 s), .t (.rows m)]] (ex (.tu [.own 0, .c (.int .i64 (bpVal x y s m)), .c (.bool (goodG x y s m))]) [(0, .ints 3 .i64 (bpRow x y s m))]) := by
  refine view_intsN ?_
  refine fspec tyOk mx Tryz.func38 rfl (by kernel_rfl) rfl ?_
  conv => whnf
  refine ACall.use (iIsGame_spec x y s m ks km) ?_
  conv => whnf
  refine ⟨fun h => ?_, fun h => ?_⟩
  · have h : goodG x y s m = false := by simpa using h
    conv => whnf
    exact .inl ⟨h, rfl, rfl⟩
  · have h : goodG x y s m = true := by simpa using h
    have hg := h
    obtain ⟨nx, ny, rfl, rfl, g1, g2, g3, g4, g5, g6, g7, g8, g9, g10⟩ := goodG_spec h
    have h4 : ∀ r, r ∈ m → r.length = 4 := fun r hr => (g10 r hr).1
    have hlen := playsL_len (nx + ny)
    have h64 := two_pow6 (n := nx + ny) (by omega)
    have hpos : 0 < 2 ^ (nx + ny) := Nat.pow_pos (by omega)
    have hsc : ∀ i, 0 ≤ scF s m nx ny i := fun i => (to_cmp (p := (playsL (nx + ny)).getD i []) g8 g10 nx ny g4 nx (by omega)).1
    conv => whnf
    refine ACall.use (plays_spec nx ny (by omega)) ?_
    conv => whnf
    refine aloopI tyOk mx (fun k : Nat => match k with
      | 0 => (⟨34, [(1, .ptr 0 0), (5, .c (.slice none 0 0)), (6, .c (.int .i64 (-1))), (17, .own 1), (18, .c (.int .i64 ((playsL (nx + ny)).length))), (19, .c (.int .i64 ((0 : Nat))))], [(0, .cells 41 [.c (.int .i64 (nx)), .c (.int .i64 (ny)), .t (.ints .i64 s), .t (.rows m)]), (1, .rows 38 3 true (playsL (nx + ny)))], 2⟩ : St)
      | k + 1 => (⟨34, [(1, .ptr 0 0), (5, .sub 1 (bIx (scF s m nx ny) k)), (6, .c (.int .i64 (scF s m nx ny (bIx (scF s m nx ny) k)))), (17, .own 1), (18, .c (.int .i64 ((playsL (nx + ny)).length))), (19, .c (.int .i64 ((k + 1 : Nat))))], [(0, .cells 41 [.c (.int .i64 (nx)), .c (.int .i64 (ny)), .t (.ints .i64 s), .t (.rows m)]), (1, .rows 38 3 true (playsL (nx + ny)))], 2⟩ : St)) (fun k => k ≤ (playsL (nx + ny)).length) (fun k => (playsL (nx + ny)).length - k) 0 (Nat.zero_le _) none (by refine ⟨rfl, rfl, ?_, ?_⟩ <;> ((repeat' (first | exact trivial | exact rfl | refine And.intro ?_ ?_)) <;> (try ((conv => whnf); first | refine vint ?_ | refine vboo ?_ | refine rint ?_ | refine rrow ?_ | skip)) <;> (try first | omega | (simp; done) | ((repeat rw [flts_closed _ (by assumption)]); exact vws_closed _ (by assumption))))) (fun k hk => ?_)
    match k, hk with
    | 0, hk =>
      refine ⟨fun h => ?_, fun h => ?_⟩
      · have h := ltT h
        obtain ⟨r1, r2⟩ := playsL_row (n := nx + ny) (x := 0) (by omega) h
        conv => whnf
        refine ⟨0, rfl, h, ?_⟩
        conv => whnf
        refine ACall.use (score_spec nx ny s m ((playsL (nx + ny)).getD 0 []) g2 g4 g5 g6 h4 r2 r1) ?_
        conv => whnf
        refine ⟨fun h6 => ?_, fun h6 => ?_⟩
        · conv => whnf
          rw [nat_wrap (by omega)]
          refine ⟨1, none, ?_, by omega, by omega⟩
          (refine ⟨rfl, rfl, ?_, ?_⟩ <;> ((repeat' (first | exact trivial | exact rfl | refine And.intro ?_ ?_)) <;> (try ((conv => whnf); first | refine vint ?_ | refine vboo ?_ | refine rint ?_ | refine rrow ?_ | skip)) <;> (try first | omega | (simp; done) | ((repeat rw [flts_closed _ (by assumption)]); exact vws_closed _ (by assumption)))))
        · have := of_decide_eq_false h6
          have := hsc 0
          unfold scF at this
          omega
      · have h := ltF h
        omega
    | k + 1, hk =>
      have hb := bIx_le (scF s m nx ny) k
      refine ⟨fun h => ?_, fun h => ?_⟩
      · have h := ltT h
        obtain ⟨r1, r2⟩ := playsL_row (n := nx + ny) (x := k + 1) (by omega) h
        conv => whnf
        refine ⟨k + 1, rfl, h, ?_⟩
        conv => whnf
        refine ACall.use (score_spec nx ny s m ((playsL (nx + ny)).getD (k + 1) []) g2 g4 g5 g6 h4 r2 r1) ?_
        conv => whnf
        refine ⟨fun h6 => ?_, fun h6 => ?_⟩
        · have e : bIx (scF s m nx ny) (k + 1) = k + 1 := if_pos (of_decide_eq_true h6)
          conv => whnf
          rw [nat_wrap (by omega)]
          refine ⟨k + 2, none, ?_, by omega, by omega⟩
          dsimp only
          rw [e]
          (refine ⟨rfl, rfl, ?_, ?_⟩ <;> ((repeat' (first | exact trivial | exact rfl | refine And.intro ?_ ?_)) <;> (try ((conv => whnf); first | refine vint ?_ | refine vboo ?_ | refine rint ?_ | refine rrow ?_ | skip)) <;> (try first | omega | (simp; done) | ((repeat rw [flts_closed _ (by assumption)]); exact vws_closed _ (by assumption)))))
        · have e : bIx (scF s m nx ny) (k + 1) = bIx (scF s m nx ny) k := if_neg (of_decide_eq_false h6)
          conv => whnf
          rw [nat_wrap (by omega)]
          refine ⟨k + 2, none, ?_, by omega, by omega⟩
          dsimp only
          rw [e]
          (refine ⟨rfl, rfl, ?_, ?_⟩ <;> ((repeat' (first | exact trivial | exact rfl | refine And.intro ?_ ?_)) <;> (try ((conv => whnf); first | refine vint ?_ | refine vboo ?_ | refine rint ?_ | refine rrow ?_ | skip)) <;> (try first | omega | (simp; done) | ((repeat rw [flts_closed _ (by assumption)]); exact vws_closed _ (by assumption)))))
      · have h := ltF h
        obtain rfl : k = 2 ^ (nx + ny) - 1 := by omega
        conv => whnf
        exact .inr ⟨hg, rfl, rfl⟩


def cntTo (f : Nat → Bool) (n : Nat) : Int := fo (fun c i => if f i then W (c + 1) else c) 0 n
def cbF (s : List Int) (m : List (List Int)) (nx ny : Nat) (i : Nat) : Bool := scF s m nx ny i == scF s m nx ny (bestI s m nx ny)
def cbVal (x y : Int) (s : List Int) (m : List (List Int)) : Int := if goodG x y s m then cntTo (cbF s m x.toNat y.toNat) (2 ^ (x.toNat + y.toNat)) else 0

end Go.Proofs.YtkomndcehdneaaaGreat
