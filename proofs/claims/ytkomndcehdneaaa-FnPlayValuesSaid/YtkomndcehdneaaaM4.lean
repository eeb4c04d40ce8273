/- Shares and mixtures: reference; whether a box is alike a mixture. -/
import Derived.Test.YtkomndcehdneaaaM3
import Derived.Test.YtkomndcehdneaaaM2
namespace Go.Proofs.Ytkomndcehdneaaa
open Go.Aw
set_option maxRecDepth 100000
set_option maxHeartbeats 4000000
theorem tdiv_natP (a b : Nat) (h : a ≤ 1000000) : IntKind.i64.wrap (Int.tdiv (a : Int) (b : Int)) = ((a / b : Nat) : Int) := by
  rw [show Int.tdiv (a : Int) (b : Int) = ((a / b : Nat) : Int) from (Int.ofNat_tdiv a b).symm]
  have h1 := Nat.div_le_self a b
  generalize a / b = c at h1
  exact w64 (by omega) (by omega)
theorem tmod_natP (a b : Nat) : Int.tmod (a : Int) (b : Int) = ((a % b : Nat) : Int) := (Int.ofNat_tmod a b).symm
theorem l3Shares_spec (x y : Int) (l : List Int) (kl : SzI l) : FSpec Try.prog 152 [.c (.int .i64 (x)), .c (.int .i64 (y)), .t (.ints .i64 l)] (ex (.c (.bool (shOk x y l))) []) := by
  unfold SzI at kl
  refine fspec tyOk mx Try.func152 rfl (by kernel_rfl) rfl ?_
  conv => whnf
  refine aloopI tyOk mx (fun i : Nat => (⟨43, [(0, .c (.int .i64 (x))), (1, .c (.int .i64 (y))), (2, .t (.ints .i64 l)), (7, .c (.int .i64 (sumF l i))), (8, .c (.int .i64 (i)))], [], 0⟩ : St)) (fun i => i ≤ l.length ∧ rowIn (l.take i) 0 1000 = true) (fun i => l.length - i) 0 ⟨Nat.zero_le _, rfl⟩ none (by refine ⟨rfl, rfl, ?_, ?_⟩ <;> ((repeat' (first | exact trivial | exact rfl | refine And.intro ?_ ?_)) <;> (try ((conv => whnf); first | refine vint ?_ | refine vboo ?_ | refine rint ?_ | refine rrow ?_ | skip)) <;> (try first | omega | (simp; done) | ((repeat rw [flts_closed _ (by assumption)]); exact vws_closed _ (by assumption))))) (fun i hi => ?_)
  obtain ⟨hi, hr⟩ := hi
  refine ⟨fun h => ?_, fun h => ?_⟩
  · have h := ltT h
    conv => whnf
    refine ⟨i, rfl, h, ?_⟩
    conv => whnf
    refine ACall.use (l1In_spec (l.getD i 0) 0 1000) ?_
    conv => whnf
    refine ⟨fun h2 => ?_, fun h2 => ?_⟩
    · have h2 : inR (l.getD i 0) 0 1000 = false := by simpa using h2
      have h3 : rowIn l 0 1000 = false := by
        rw [← Bool.not_eq_true, rowIn_iff]
        intro hh
        have := inR_iff.2 (hh (l.getD i 0) (getD_mem (d := 0) h))
        rw [this] at h2; cases h2
      conv => whnf
      exact ⟨by rw [shOk, h3]; simp, rfl⟩
    · have h2 : inR (l.getD i 0) 0 1000 = true := by simpa using h2
      have h3 : rowIn (l.take (i + 1)) 0 1000 = true := by
        rw [rowIn_iff] at hr ⊢
        intro v hv
        rw [List.take_succ_eq_append_getElem h] at hv
        rcases List.mem_append.1 hv with h4 | h4
        · exact hr v h4
        · rw [List.mem_singleton] at h4
          have e : l[i] = l.getD i 0 := by simp [List.getD, h]
          rw [h4, e]; exact inR_iff.1 h2
      conv => whnf
      refine ⟨i, rfl, h, ?_⟩
      conv => whnf
      rw [nat_wrap (by omega)]
      exact ⟨i + 1, none, (by refine ⟨rfl, rfl, ?_, ?_⟩ <;> ((repeat' (first | exact trivial | exact rfl | refine And.intro ?_ ?_)) <;> (try ((conv => whnf); first | refine vint ?_ | refine vboo ?_ | refine rint ?_ | refine rrow ?_ | skip)) <;> (try first | omega | (simp; done) | ((repeat rw [flts_closed _ (by assumption)]); exact vws_closed _ (by assumption))))), ⟨by omega, h3⟩, by omega⟩
  · have h' := ltF h
    obtain rfl : i = l.length := by omega
    have h3 : rowIn l 0 1000 = true := by rw [List.take_length] at hr; exact hr
    conv => whnf
    refine ACall.use (l2Sizes_spec x y) ?_
    conv => whnf
    refine ⟨fun h => ?_, fun h => ?_⟩
    · have h : szOk x y = true := by simpa using h
      obtain ⟨nx, ny, rfl, rfl, _, hx, _, hy, _⟩ := szOk_nat h
      conv => whnf
      rw [natAdd (by omega)]
      refine ⟨by omega, ?_⟩
      conv => whnf
      rw [shl_one (by omega)]
      refine ⟨fun h2 => ?_, fun h2 => ?_⟩
      · have h2 : l.length = 2 ^ (nx + ny) := by simpa [-Int.natCast_pow, Int.natCast_inj] using h2
        conv => whnf
        refine ACall.use (l1In_spec (sumF l l.length) 1 1000) ?_
        conv => whnf
        exact ⟨by rw [shOk, h, h3, Int.toNat_natCast, Int.toNat_natCast, decide_eq_true h2]; simp, rfl⟩
      · have h2 : ¬ l.length = 2 ^ (nx + ny) := by simpa [-Int.natCast_pow, Int.natCast_inj] using h2
        conv => whnf
        exact ⟨by rw [shOk, Int.toNat_natCast, Int.toNat_natCast, decide_eq_false h2]; simp, rfl⟩
    · conv => whnf
      refine ⟨fun h' => absurd h' (by decide), fun _ => ?_⟩
      conv => whnf
      exact ⟨by rw [shOk, h]; rfl, rfl⟩
theorem shOk_spec {x y : Int} {l : List Int} (h : shOk x y l = true) : ∃ nx ny : Nat, x = nx ∧ y = ny ∧ 1 ≤ nx ∧ nx ≤ 3 ∧ 1 ≤ ny ∧ ny ≤ 3 ∧ l.length = 2 ^ (nx + ny) ∧ (∀ v, v ∈ l → 0 ≤ v ∧ v ≤ 1000) ∧ 1 ≤ sumF l l.length ∧ sumF l l.length ≤ 1000 := by
  simp only [shOk, Bool.and_eq_true, decide_eq_true_eq, rowIn_iff, inR_iff] at h
  obtain ⟨⟨⟨h1, h2⟩, h3⟩, h4⟩ := h
  obtain ⟨nx, ny, rfl, rfl, a1, a2, a3, a4, _⟩ := szOk_nat h1
  exact ⟨nx, ny, rfl, rfl, a1, a2, a3, a4, h2, h3, h4.1, h4.2⟩
theorem MixtureBox_i (x y : Int) (l : List Int) (kl : SzI l) : FSpec Try.prog 35 [.c (.int .i64 (x)), .c (.int .i64 (y)), .t (.ints .i64 l)]
    (ex (.tu [.ag [.c (.int .i64 (if shOk x y l then x else 0)), .c (.int .i64 (if shOk x y l then y else 0)), .c (.int .i64 (if shOk x y l then sumF l l.length else 0)), .own 0], .c (.bool (shOk x y l))]) [(0, .rows 25 3 true (if shOk x y l then mixL l x.toNat y.toNat else []))]) := by
  refine view_box ?_
  refine fspec tyOk mx Try.func35 rfl (by kernel_rfl) rfl ?_
  conv => whnf
  refine ACall.use (areShares_spec x y l kl) ?_
  conv => whnf
  refine ⟨fun h => ?_, fun h => ?_⟩
  · have h : shOk x y l = false := by simpa using h
    conv => whnf
    exact .inl ⟨h, rfl, rfl⟩
  · have h : shOk x y l = true := by simpa using h
    obtain ⟨nx, ny, rfl, rfl, _, hx, _, hy, hl, _⟩ := shOk_spec h
    conv => whnf
    refine ACall.use (mixture_spec nx ny l hx hy hl) ?_
    conv => whnf
    exact .inr ⟨h, rfl, rfl⟩
theorem l3Mixture_spec (nx ny : Nat) (l : List Int) (hx : nx ≤ 3) (hy : ny ≤ 3) (hy0 : 1 ≤ ny) (hl : l.length = 2 ^ (nx + ny)) :
    FSpec Try.prog 153 [.c (.int .i64 (nx)), .c (.int .i64 (ny)), .t (.ints .i64 l)] (ex (.ag [.c (.int .i64 (nx)), .c (.int .i64 (ny)), .c (.int .i64 (sumF l l.length)), .own 0]) [(0, .rows 25 3 true (mixL l nx ny))]) := by
  have h64 := two_pow6 (n := nx + ny) (by omega)
  have hpl := playsL_len (nx + ny)
  have hn : nx * ny ≤ 3 * 3 := Nat.mul_le_mul hx hy
  have eN : IntKind.i64.wrap ((nx : Int) * (ny : Int)) = ((nx * ny : Nat) : Int) := by rw [← Int.natCast_mul]; exact w64 (by omega) (by omega)
  have hny : (ny : Int) ≠ 0 := by omega
  refine fspec tyOk mx Try.func153 rfl (by kernel_rfl) rfl ?_
  conv => whnf
  refine aloopI tyOk mx (fun k : Nat => (⟨97, [(0, .c (.int .i64 (nx))), (1, .c (.int .i64 (ny))), (2, .t (.ints .i64 l)), (6, .ptr 0 0), (7, .ptr 2 0), (8, .c (.int .i64 (k)))], [(0, .cells 53 [.c (.int .i64 (0)), .c (.int .i64 (0)), .c (.int .i64 (0)), .c (.slice none 0 0)]), (1, .rows 25 3 true (zeroR k)), (2, .cells 53 [.c (.int .i64 (nx)), .c (.int .i64 (ny)), .c (.int .i64 (0)), .own 1])], 3⟩ : St)) (fun k => k ≤ nx * ny) (fun k => nx * ny - k) 0 (Nat.zero_le _) none (by refine ⟨rfl, rfl, ?_, ?_⟩ <;> ((repeat' (first | exact trivial | exact rfl | refine And.intro ?_ ?_)) <;> (try ((conv => whnf); first | refine vint ?_ | refine vboo ?_ | refine rint ?_ | refine rrow ?_ | skip)) <;> (try first | omega | (simp; done) | ((repeat rw [flts_closed _ (by assumption)]); exact vws_closed _ (by assumption))))) (fun k hk => ?_)
  conv => whnf
  rw [eN]
  refine ⟨fun h => ?_, fun h => ?_⟩
  · have h := ltT h
    have eZ : zeroR (k + 1) = zeroR k ++ [List.replicate 4 0] := by rw [zeroR, zeroR, List.replicate_succ']; rfl
    have lz : (zeroR k).length = k := by simp [zeroR]
    conv => whnf
    refine ADraw.plan tyOk mx (.q 0 (.q 1 (.last 2 (.last 3 (.last 4 (.q 5 (.last 6 (.done))))))) : Plan) (by kernel_rfl) ?_
    conv => whnf
    repeat' (first | (refine ⟨4, rfl, rfl, by simp [room], ?_⟩; conv => whnf) | (refine And.intro (show (zeroR k).length + 1 ≤ room from by rw [lz]; unfold room; omega) ?_; conv => whnf) | (refine And.intro ?_ ?_ <;> (conv => whnf)))
    all_goals
      rw [nat_wrap (by omega)]
      refine ⟨k + 1, none, ?_, by omega, by omega⟩
      rw [eZ]
      (refine ⟨rfl, rfl, ?_, ?_⟩ <;> ((repeat' (first | exact trivial | exact rfl | refine And.intro ?_ ?_)) <;> (try ((conv => whnf); first | refine vint ?_ | refine vboo ?_ | refine rint ?_ | refine rrow ?_ | skip)) <;> (try first | omega | (simp; done) | ((repeat rw [flts_closed _ (by assumption)]); exact vws_closed _ (by assumption)))))
  · have h := ltF h
    obtain rfl : k = nx * ny := by omega
    conv => whnf
    refine ACall.use (FSpec.toldL (l2Plays_spec nx ny (by omega)) (x' := .t (.rows (playsL (nx + ny)))) ⟨rfl, rfl⟩) ?_
    conv => whnf
    refine aloopI tyOk mx (fun i : Nat => (⟨97, [(0, .c (.int .i64 (nx))), (1, .c (.int .i64 (ny))), (2, .t (.ints .i64 l)), (6, .ptr 0 0), (7, .ptr 2 0), (9, .t (.rows (playsL (nx + ny)))), (10, .c (.int .i64 (i)))], [(0, .cells 53 [.c (.int .i64 (0)), .c (.int .i64 (0)), .c (.int .i64 (0)), .c (.slice none 0 0)]), (1, .rows 25 3 true (mixTo l nx ny i)), (2, .cells 53 [.c (.int .i64 (nx)), .c (.int .i64 (ny)), .c (.int .i64 (sumF l i)), .own 1])], 3⟩ : St)) (fun i => i ≤ (playsL (nx + ny)).length) (fun i => (playsL (nx + ny)).length - i) 0 (Nat.zero_le _) none (by refine ⟨rfl, rfl, ?_, ?_⟩ <;> ((repeat' (first | exact trivial | exact rfl | refine And.intro ?_ ?_)) <;> (try ((conv => whnf); first | refine vint ?_ | refine vboo ?_ | refine rint ?_ | refine rrow ?_ | skip)) <;> (try first | omega | (simp; done) | ((repeat rw [flts_closed _ (by assumption)]); exact vws_closed _ (by assumption))))) (fun i hi => ?_)
    refine ⟨fun h => ?_, fun h => ?_⟩
    · have h := ltT h
      obtain ⟨p1, p2⟩ := playsL_row (n := nx + ny) (by omega) h
      have sq := Sq.mix l nx ny i
      have hli : i < l.length := by omega
      have eS : sumF l (i + 1) = W (sumF l i + l.getD i 0) := rfl
      have eP : mixTo l nx ny (i + 1) = mixFl ((playsL (nx + ny)).getD i []) (l.getD i 0) nx ny (mixTo l nx ny i) (nx * ny) := by rw [mixFl_eq]; rfl
      conv => whnf
      refine ADraw.std tyOk mx ⟨by kernel_rfl, ?_⟩
      conv => whnf
      refine ⟨i, rfl, hli, ?_⟩
      conv => whnf
      refine aloopI tyOk mx (fun q : Nat => (⟨97, [(0, .c (.int .i64 (nx))), (1, .c (.int .i64 (ny))), (2, .t (.ints .i64 l)), (6, .ptr 0 0), (7, .ptr 2 0), (9, .t (.rows (playsL (nx + ny)))), (10, .c (.int .i64 (i))), (11, .c (.int .i64 (q)))], [(0, .cells 53 [.c (.int .i64 (0)), .c (.int .i64 (0)), .c (.int .i64 (0)), .c (.slice none 0 0)]), (1, .rows 25 3 true (mixFl ((playsL (nx + ny)).getD i []) (l.getD i 0) nx ny (mixTo l nx ny i) q)), (2, .cells 53 [.c (.int .i64 (nx)), .c (.int .i64 (ny)), .c (.int .i64 (sumF l (i + 1))), .own 1])], 3⟩ : St)) (fun q => q ≤ nx * ny) (fun q => nx * ny - q) 0 (Nat.zero_le _) none (by refine ⟨rfl, rfl, ?_, ?_⟩ <;> ((repeat' (first | exact trivial | exact rfl | refine And.intro ?_ ?_)) <;> (try ((conv => whnf); first | refine vint ?_ | refine vboo ?_ | refine rint ?_ | refine rrow ?_ | skip)) <;> (try first | omega | (simp; done) | ((repeat rw [flts_closed _ (by assumption)]); exact vws_closed _ (by assumption))))) (fun q hq => ?_)
      conv => whnf
      rw [eN]
      refine ⟨fun h2 => ?_, fun h2 => ?_⟩
      · have h2 := ltT h2
        have sk := Sq.fl (p := (playsL (nx + ny)).getD i []) (s := l.getD i 0) sq q hq
        have eK : mixFl ((playsL (nx + ny)).getD i []) (l.getD i 0) nx ny (mixTo l nx ny i) (q + 1) = addAt (mixFl ((playsL (nx + ny)).getD i []) (l.getD i 0) nx ny (mixTo l nx ny i) q) q (bitIx ((playsL (nx + ny)).getD i []) nx (q / ny) (q % ny)) (l.getD i 0) := rfl
        generalize mixFl ((playsL (nx + ny)).getD i []) (l.getD i 0) nx ny (mixTo l nx ny i) q = m3 at sk eK
        have er := sk.row h2
        have d1 : q / ny < nx := Nat.div_lt_of_lt_mul (by rw [Nat.mul_comm]; exact h2)
        have d2 : q % ny < ny := Nat.mod_lt _ (by omega)
        obtain ⟨b1, b2⟩ := bitIx_eq p2 nx (q / ny) (q % ny)
        conv => whnf
        refine ADraw.std tyOk mx ⟨by kernel_rfl, ?_⟩
        conv => whnf
        refine ⟨i, rfl, h, ?_⟩
        conv => whnf
        refine ⟨hny, ?_⟩
        conv => whnf
        refine ⟨q / ny, tdiv_natP q ny (by omega), by omega, ?_⟩
        conv => whnf
        refine ⟨i, rfl, h, ?_⟩
        conv => whnf
        refine ⟨hny, ?_⟩
        conv => whnf
        rw [tmod_natP]
        refine ⟨nx + q % ny, natAdd (by omega), by omega, ?_⟩
        conv => whnf
        refine ADraw.std tyOk mx ⟨by kernel_rfl, ?_⟩
        conv => whnf
        refine ⟨q, rfl, by rw [sk.1]; exact h2, ?_⟩
        conv => whnf
        refine ⟨q, rfl, by rw [sk.1]; exact h2, ?_⟩
        conv => whnf
        refine ⟨bitIx ((playsL (nx + ny)).getD i []) nx (q / ny) (q % ny), b1, by rw [er]; exact b2, ?_⟩
        conv => whnf
        refine ⟨i, rfl, hli, ?_⟩
        conv => whnf
        refine ⟨bitIx ((playsL (nx + ny)).getD i []) nx (q / ny) (q % ny), b1, by rw [er]; exact b2, ?_⟩
        conv => whnf
        rw [nat_wrap (by omega)]
        refine ⟨q + 1, none, ?_, by omega, by omega⟩
        rw [eK]
        (refine ⟨rfl, rfl, ?_, ?_⟩ <;> ((repeat' (first | exact trivial | exact rfl | refine And.intro ?_ ?_)) <;> (try ((conv => whnf); first | refine vint ?_ | refine vboo ?_ | refine rint ?_ | refine rrow ?_ | skip)) <;> (try first | omega | (simp; done) | ((repeat rw [flts_closed _ (by assumption)]); exact vws_closed _ (by assumption)))))
      · have h2 := ltF h2
        obtain rfl : q = nx * ny := by omega
        conv => whnf
        rw [nat_wrap (by omega)]
        refine ⟨i + 1, none, ?_, by omega, by omega⟩
        rw [eP]
        (refine ⟨rfl, rfl, ?_, ?_⟩ <;> ((repeat' (first | exact trivial | exact rfl | refine And.intro ?_ ?_)) <;> (try ((conv => whnf); first | refine vint ?_ | refine vboo ?_ | refine rint ?_ | refine rrow ?_ | skip)) <;> (try first | omega | (simp; done) | ((repeat rw [flts_closed _ (by assumption)]); exact vws_closed _ (by assumption)))))
    · have h' := ltF h
      obtain rfl : i = (playsL (nx + ny)).length := by omega
      conv => whnf
      refine ⟨by rw [hl, hpl], ?_⟩
      rw [mixL, hpl]
theorem MixtureBox_s (x y : Int) (l : List Int) (kl : SzI l) : FSpec Try.prog 36 [.c (.int .i64 (x)), .c (.int .i64 (y)), .t (.ints .i64 l)]
    (ex (.tu [.ag [.c (.int .i64 (if shOk x y l then x else 0)), .c (.int .i64 (if shOk x y l then y else 0)), .c (.int .i64 (if shOk x y l then sumF l l.length else 0)), .own 0], .c (.bool (shOk x y l))]) [(0, .rows 25 3 true (if shOk x y l then mixL l x.toNat y.toNat else []))]) := by
  refine view_box ?_
  refine fspec tyOk mx Try.func36 rfl (by kernel_rfl) rfl ?_
  conv => whnf
  refine ACall.use (l3Shares_spec x y l kl) ?_
  conv => whnf
  refine ⟨fun h => ?_, fun h => ?_⟩
  · have h : shOk x y l = false := by simpa using h
    conv => whnf
    exact .inl ⟨h, rfl, rfl⟩
  · have h : shOk x y l = true := by simpa using h
    obtain ⟨nx, ny, rfl, rfl, _, hx, hy0, hy, hl, _⟩ := shOk_spec h
    conv => whnf
    refine ACall.use (l3Mixture_spec nx ny l hx hy hy0 hl) ?_
    conv => whnf
    exact .inr ⟨h, rfl, rfl⟩
end Go.Proofs.Ytkomndcehdneaaa
/- Whether a box is alike a mixture: reference and program. -/
namespace Go.Proofs.Ytkomndcehdneaaa
open Go.Aw
set_option maxRecDepth 100000
set_option maxHeartbeats 4000000
def imOk (x y z : Int) (m : List (List Int)) (l : List Int) : Bool := goodB x y z m && shOk x y l
def imV (x y z : Int) (m : List (List Int)) (l : List Int) : Bool := imOk x y z m l && alkB z (sumF l l.length) m (mixL l x.toNat y.toNat)
theorem IsMixture_i (x y z : Int) (m : List (List Int)) (km : SzM m) (l : List Int) (kl : SzI l) : FSpec Try.prog 38 [.ag [.c (.int .i64 (x)), .c (.int .i64 (y)), .c (.int .i64 (z)), .t (.rows m)], .t (.ints .i64 l)] (ex (.tu [.c (.bool (imV x y z m l)), .c (.bool (imOk x y z m l))]) []) := by
  refine fspec tyOk mx Try.func38 rfl (by kernel_rfl) rfl ?_
  conv => whnf
  refine ACall.use (IsBox_spec x y z m km) ?_
  conv => whnf
  refine ⟨fun h => ?_, fun h => ?_⟩
  · have h : goodB x y z m = true := by simpa using h
    obtain ⟨nx, ny, rfl, rfl, _, hx, hy0, hy, _, _, q7, q8, q9⟩ := goodB_spec h
    conv => whnf
    refine ACall.use (areShares_spec nx ny l kl) ?_
    conv => whnf
    refine ⟨fun h2 => ?_, fun h2 => ?_⟩
    · have h2 : shOk nx ny l = false := by simpa using h2
      conv => whnf
      exact ⟨by rw [imV, imOk, h2]; simp, rfl⟩
    · have h2 : shOk nx ny l = true := by simpa using h2
      have hs := shOk_spec h2
      obtain ⟨nx', ny', ex, ey, _, _, _, _, hl, _⟩ := hs
      obtain rfl : nx = nx' := by omega
      obtain rfl : ny = ny' := by omega
      have sq := Sq.mix l nx ny (2 ^ (nx + ny))
      conv => whnf
      refine ACall.use (mixture_spec nx ny l hx hy hl) ?_
      conv => whnf
      refine ACall.use (alike_spec z (sumF l l.length) m (mixL l nx ny) (by rw [mixL, sq.1, q7]) (by omega) (fun r hr => (q9 r hr).1) sq.2) ?_
      conv => whnf
      exact ⟨by rw [imV, imOk, h, h2]; simp, rfl⟩
  · have h : goodB x y z m = false := by simpa using h
    conv => whnf
    refine ⟨fun _ => ?_, fun h' => absurd h' (by decide)⟩
    conv => whnf
    exact ⟨by rw [imV, imOk, h]; rfl, rfl⟩
theorem IsMixture_s (x y z : Int) (m : List (List Int)) (km : SzM m) (l : List Int) (kl : SzI l) : FSpec Try.prog 39 [.ag [.c (.int .i64 (x)), .c (.int .i64 (y)), .c (.int .i64 (z)), .t (.rows m)], .t (.ints .i64 l)] (ex (.tu [.c (.bool (imV x y z m l)), .c (.bool (imOk x y z m l))]) []) := by
  refine fspec tyOk mx Try.func39 rfl (by kernel_rfl) rfl ?_
  conv => whnf
  refine ACall.use (l2Box_spec x y z m km) ?_
  conv => whnf
  refine ⟨fun h => ?_, fun h => ?_⟩
  · have h : goodB x y z m = true := by simpa using h
    obtain ⟨nx, ny, rfl, rfl, _, hx, hy0, hy, _, _, q7, q8, q9⟩ := goodB_spec h
    conv => whnf
    refine ACall.use (l3Shares_spec nx ny l kl) ?_
    conv => whnf
    refine ⟨fun h2 => ?_, fun h2 => ?_⟩
    · have h2 : shOk nx ny l = false := by simpa using h2
      conv => whnf
      exact ⟨by rw [imV, imOk, h2]; simp, rfl⟩
    · have h2 : shOk nx ny l = true := by simpa using h2
      have hs := shOk_spec h2
      obtain ⟨nx', ny', ex, ey, _, _, _, _, hl, _⟩ := hs
      obtain rfl : nx = nx' := by omega
      obtain rfl : ny = ny' := by omega
      have sq := Sq.mix l nx ny (2 ^ (nx + ny))
      conv => whnf
      refine ADraw.plan tyOk mx (.q 0 (.q 1 (.q 2 (.q 3 (.q 4 (.q 5 (.last 6 (.last 7 (.q 8 (.q 9 (.done)))))))))) : Plan) (by kernel_rfl) ?_
      conv => whnf
      repeat' (first
        | (refine ACall.useR (l3Mixture_spec nx ny l hx hy hy0 hl) ?_; conv => whnf)
        | (refine ACall.useR (l2Alike_spec nx ny z nx ny (sumF l l.length) m (mixL l nx ny) (by rw [mixL, sq.1, q7]) (by omega) (fun r hr => (q9 r hr).1) sq.2) ?_; conv => whnf)
        | (exact ⟨by rw [imV, imOk, h, h2]; simp, rfl⟩)
        | (refine And.intro ?_ ?_ <;> (conv => whnf)))
  · have h : goodB x y z m = false := by simpa using h
    conv => whnf
    refine ⟨fun _ => ?_, fun h' => absurd h' (by decide)⟩
    conv => whnf
    exact ⟨by rw [imV, imOk, h]; rfl, rfl⟩
end Go.Proofs.Ytkomndcehdneaaa
/- Finite sums. -/
namespace Go.Aw
def sm (f : Nat → Int) : Nat → Int
  | 0 => 0
  | n + 1 => sm f n + f n
theorem sm_congr {f g : Nat → Int} : ∀ {n : Nat}, (∀ i, i < n → f i = g i) → sm f n = sm g n
  | 0, _ => rfl
  | n + 1, h => by rw [sm, sm, sm_congr (fun i hi => h i (by omega)), h n (by omega)]
theorem sm_add (f g : Nat → Int) : ∀ n, sm (fun i => f i + g i) n = sm f n + sm g n
  | 0 => rfl
  | n + 1 => by simp only [sm]; rw [sm_add f g n]; omega
theorem sm_sub (f g : Nat → Int) : ∀ n, sm (fun i => f i - g i) n = sm f n - sm g n
  | 0 => rfl
  | n + 1 => by simp only [sm]; rw [sm_sub f g n]; omega
theorem sm_bd {f : Nat → Int} {b : Int} : ∀ {n : Nat}, (∀ i, i < n → -b ≤ f i ∧ f i ≤ b) → -(n * b) ≤ sm f n ∧ sm f n ≤ n * b
  | 0, _ => by simp [sm]
  | n + 1, h => by
      have h1 := sm_bd (fun i hi => h i (Nat.lt_succ_of_lt hi)) (n := n)
      have h2 := h n (by omega)
      rw [sm, show ((n + 1 : Nat) : Int) * b = n * b + b by rw [Int.natCast_add, Int.add_mul]; simp]
      omega
theorem sm_mul (c : Int) (f : Nat → Int) : ∀ n, sm (fun i => c * f i) n = c * sm f n
  | 0 => by simp [sm]
  | n + 1 => by simp only [sm]; rw [sm_mul c f n, Int.mul_add]
theorem sm_mul_r (c : Int) (f : Nat → Int) : ∀ n, sm (fun i => f i * c) n = sm f n * c
  | 0 => by simp [sm]
  | n + 1 => by simp only [sm]; rw [sm_mul_r c f n, Int.add_mul]
theorem sm_zero : ∀ n, sm (fun _ => 0) n = 0
  | 0 => rfl
  | n + 1 => by simp only [sm]; rw [sm_zero n]; rfl
theorem sm_comm (f : Nat → Nat → Int) (k : Nat) : ∀ n, sm (fun i => sm (fun j => f i j) k) n = sm (fun j => sm (fun i => f i j) n) k
  | 0 => by simp only [sm]; exact (sm_zero k).symm
  | n + 1 => by simp only [sm]; rw [sm_comm f k n, ← sm_add]
theorem sm_le {f g : Nat → Int} : ∀ {n : Nat}, (∀ i, i < n → f i ≤ g i) → sm f n ≤ sm g n
  | 0, _ => Int.le_refl _
  | n + 1, h => by
      have h1 := sm_le (fun i hi => h i (Nat.lt_succ_of_lt hi)) (n := n)
      have h2 := h n (by omega)
      simp only [sm]; omega
theorem sm_pos {f : Nat → Int} {n : Nat} (h : ∀ i, i < n → 0 ≤ f i) : 0 ≤ sm f n := by
  have := sm_le (f := fun _ => 0) (g := f) h
  rwa [sm_zero] at this
theorem sm_flat (f : Nat → Int) (k : Nat) : ∀ n, sm (fun i => sm (fun j => f (i * k + j)) k) n = sm f (n * k)
  | 0 => by simp [sm]
  | n + 1 => by
      have hs : ∀ j, sm f (n * k + j) = sm f (n * k) + sm (fun i => f (n * k + i)) j := by
        intro j
        induction j with
        | zero => simp [sm]
        | succ j ih => rw [← Nat.add_assoc]; simp only [sm]; rw [ih]; omega
      simp only [sm]
      rw [sm_flat f k n, Nat.add_mul, Nat.one_mul, hs]
/-- sums that the machine wraps, where they stay small -/
theorem foA {g : Int → Nat → Int} {F : Nat → Int} {B K : Int} {n : Nat} (hF : ∀ x, x < n → 0 ≤ F x ∧ F x ≤ B) (hg : ∀ a x, x < n → 0 ≤ a → a ≤ K → g a x = a + F x) {a0 : Int} (h0 : 0 ≤ a0) (hB : 0 ≤ B) (hK : a0 + n * B ≤ K) :
    ∀ k, k ≤ n → fo g a0 k = a0 + sm F k ∧ a0 ≤ fo g a0 k ∧ fo g a0 k ≤ a0 + k * B
  | 0, _ => by simp [fo, sm]
  | k + 1, hk => by
      obtain ⟨h1, h2, h3⟩ := foA hF hg h0 hB hK k (by omega)
      have hf := hF k (by omega)
      have hm : (k : Int) * B ≤ n * B := Int.mul_le_mul_of_nonneg_right (by omega) hB
      have e := hg (fo g a0 k) k (by omega) (by omega) (by omega)
      have e2 : ((k + 1 : Nat) : Int) * B = k * B + B := by rw [Int.natCast_add, Int.add_mul]; simp
      simp only [fo, sm]
      rw [e, e2]
      exact ⟨by rw [h1]; omega, by omega, by omega⟩
/-- the greatest of some numbers that are 0 at least -/
theorem foM {m2 : Int → Int → Int} (hm : ∀ a b, m2 a b = if b > a then b else a) {f : Nat → Int} : ∀ {n : Nat}, (∀ k, k < n → 0 ≤ f k) →
    0 ≤ fo (fun b k => m2 b (f k)) 0 n ∧ (∀ k, k < n → f k ≤ fo (fun b k => m2 b (f k)) 0 n) ∧ (0 < n → ∃ k, k < n ∧ fo (fun b k => m2 b (f k)) 0 n = f k)
  | 0, _ => ⟨Int.le_refl _, fun k hk => absurd hk (by omega), fun h => absurd h (by omega)⟩
  | n + 1, h => by
      obtain ⟨h0, h1, h2⟩ := foM hm (fun k hk => h k (Nat.lt_succ_of_lt hk)) (n := n)
      have hn := h n (by omega)
      simp only [fo]
      rw [hm]
      split
      · rename_i hgt
        refine ⟨hn, fun k hk => ?_, fun _ => ⟨n, by omega, rfl⟩⟩
        by_cases e : k = n
        · subst e; exact Int.le_refl _
        · have := h1 k (by omega); omega
      · rename_i hgt
        refine ⟨h0, fun k hk => ?_, fun _ => ?_⟩
        · by_cases e : k = n
          · subst e; omega
          · exact h1 k (by omega)
        · by_cases hz : 0 < n
          · obtain ⟨k, hk, e⟩ := h2 hz
            exact ⟨k, by omega, e⟩
          · have : n = 0 := by omega
            subst this
            refine ⟨0, by omega, ?_⟩
            simp only [fo] at hgt ⊢
            omega
end Go.Aw
/- Mixtures: their numbers, what is linear in a box, and what holds of mixtures because it holds of plays. -/
namespace Go.Proofs.Ytkomndcehdneaaa
open Go.Aw
set_option maxRecDepth 100000
set_option maxHeartbeats 4000000

def ent (m : List (List Int)) (q e : Nat) : Int := (m.getD q []).getD e 0
theorem getD_outP {α : Type} {l : List α} {i : Nat} {d : α} (h : ¬ i < l.length) : l.getD i d = d := by rw [List.getD_eq_getElem?_getD, List.getElem?_eq_none (Nat.le_of_not_lt h)]; rfl
theorem set_getD {α : Type} {l : List α} {i j : Nat} {a d : α} (h : i < l.length) : (l.set i a).getD j d = if j = i then a else l.getD j d := by
  rw [List.getD_eq_getElem?_getD, List.getElem?_set]
  by_cases e : i = j
  · subst e; simp [h]
  · rw [if_neg e, if_neg (Ne.symm e), List.getD_eq_getElem?_getD]
theorem addAt_ent {n q e q' e' : Nat} {s : Int} {m : List (List Int)} (h : Sq n m) (hq : q < n) (he : e < 4) : ent (addAt m q e s) q' e' = if q' = q ∧ e' = e then W (ent m q e + s) else ent m q' e' := by
  unfold ent addAt
  rw [set_getD (by rw [h.1]; exact hq)]
  by_cases e1 : q' = q
  · subst e1
    rw [if_pos rfl, set_getD (by rw [h.row hq]; exact he)]
    by_cases e2 : e' = e
    · rw [if_pos e2, if_pos ⟨rfl, e2⟩]
    · rw [if_neg e2, if_neg (fun h => e2 h.2)]
  · rw [if_neg e1, if_neg (fun h => e1 h.1)]
theorem mixFl_ent {p : List Int} (hp : ∀ v, v ∈ p → 0 ≤ v ∧ v ≤ 1) {s : Int} {nx ny : Nat} {m : List (List Int)} (h : Sq (nx * ny) m) (q e : Nat) : ∀ Q, Q ≤ nx * ny →
    ent (mixFl p s nx ny m Q) q e = if q < Q ∧ e = bitIx p nx (q / ny) (q % ny) then W (ent m q e + s) else ent m q e
  | 0, _ => by rw [if_neg (by omega)]; rfl
  | Q + 1, hQ => by
    have ih := mixFl_ent hp (s := s) h q e Q (by omega)
    have sk := Sq.fl (p := p) (s := s) h Q (by omega)
    have e1 : mixFl p s nx ny m (Q + 1) = addAt (mixFl p s nx ny m Q) Q (bitIx p nx (Q / ny) (Q % ny)) s := rfl
    rw [e1, addAt_ent sk (by omega) (bitIx_eq hp nx (Q / ny) (Q % ny)).2]
    by_cases c : q = Q ∧ e = bitIx p nx (Q / ny) (Q % ny)
    · obtain ⟨rfl, c2⟩ := c
      rw [if_pos ⟨rfl, c2⟩, if_pos ⟨by omega, c2⟩, ← c2, ih, if_neg (by omega)]
    · rw [if_neg c, ih]
      by_cases c2 : q < Q ∧ e = bitIx p nx (q / ny) (q % ny)
      · rw [if_pos c2, if_pos ⟨by omega, c2.2⟩]
      · rw [if_neg c2, if_neg]
        rintro ⟨h1, h2⟩
        by_cases h3 : q = Q
        · subst h3; exact c ⟨rfl, h2⟩
        · exact c2 ⟨by omega, h2⟩
/-- the box of the i-th play -/
def uB (nx ny i : Nat) : List (List Int) := pgM ((playsL (nx + ny)).getD i []) nx ny 1
theorem flat_get {α : Type} (g : Nat → Nat → α) (d : α) (ny : Nat) : ∀ (nx x y : Nat), x < nx → y < ny → ((List.range nx).flatMap (fun i => (List.range ny).map (g i))).getD (x * ny + y) d = g x y
  | nx + 1, x, y, hx, hy => by
    have hl : ((List.range nx).flatMap (fun i => (List.range ny).map (g i))).length = nx * ny := by
      rw [List.length_flatMap]
      clear hx
      induction nx with
      | zero => simp
      | succ n ih => rw [List.range_succ, List.map_append, List.sum_append, ih]; simp [Nat.succ_mul]
    rw [List.range_succ, List.flatMap_append]
    by_cases h : x < nx
    · have := ix_lt h hy
      rw [List.getD_eq_getElem?_getD, List.getElem?_append_left (by rw [hl]; exact this), ← List.getD_eq_getElem?_getD]
      exact flat_get g d ny nx x y h hy
    · obtain rfl : x = nx := by omega
      rw [List.getD_eq_getElem?_getD, List.getElem?_append_right (by rw [hl]; omega), ← List.getD_eq_getElem?_getD, hl, Nat.add_sub_cancel_left]
      simp only [List.flatMap_cons, List.flatMap_nil, List.append_nil]
      exact range_getD hy
theorem boxRows_ent (num : Nat → Nat → Nat → Nat → Int) {nx ny x y e : Nat} (hx : x < nx) (hy : y < ny) (he : e < 4) : ent (boxRows num nx ny) (x * ny + y) e = num x y (e / 2) (e % 2) := by
  unfold ent boxRows
  rw [flat_get (fun i => boxRow num i) [] ny nx x y hx hy, boxRow, range_getD he]
theorem split_ix {q nx ny : Nat} (h : q < nx * ny) : q / ny < nx ∧ q % ny < ny ∧ q = q / ny * ny + q % ny := by
  have h0 : 0 < ny := by
    rcases Nat.eq_zero_or_pos ny with e | e
    · subst e; simp at h
    · exact e
  refine ⟨Nat.div_lt_of_lt_mul (by rw [Nat.mul_comm]; exact h), Nat.mod_lt _ h0, ?_⟩
  have := Nat.div_add_mod q ny
  rw [Nat.mul_comm]; omega
theorem uB_ent {nx ny i q e : Nat} (hx : nx ≤ 3) (hy : ny ≤ 3) (hi : i < 2 ^ (nx + ny)) (hq : q < nx * ny) (he : e < 4) : ent (uB nx ny i) q e = if e = bitIx ((playsL (nx + ny)).getD i []) nx (q / ny) (q % ny) then 1 else 0 := by
  obtain ⟨s1, s2, s3⟩ := split_ix hq
  obtain ⟨_, p2⟩ := playsL_row (n := nx + ny) (x := i) (by omega) (by rw [playsL_len]; exact hi)
  generalize hp : (playsL (nx + ny)).getD i [] = p at p2
  have e0 : uB nx ny i = boxRows (pgN p nx 1) nx ny := by rw [uB, hp]; rfl
  have e1 := boxRows_ent (pgN p nx 1) (e := e) s1 s2 he
  rw [← s3] at e1
  rw [e0, e1, pgN, bitIx]
  have b1 := bits_mem p2 (i := q / ny)
  have b2 := bits_mem p2 (i := nx + q % ny)
  generalize p.getD (q / ny) 0 = a at b1
  generalize p.getD (nx + q % ny) 0 = b at b2
  by_cases c : e = (2 * a + b).toNat
  · rw [if_pos c, if_pos (by omega)]
  · rw [if_neg c, if_neg (by omega)]
/-- shares as numbers -/
structure Shs (l : List Int) (NN : Nat) : Prop where
  le : NN ≤ 64
  len : l.length = NN
  bd : ∀ v, v ∈ l → 0 ≤ v ∧ v ≤ 1000
theorem Shs.at {l : List Int} {NN : Nat} (h : Shs l NN) (i : Nat) : 0 ≤ l.getD i 0 ∧ l.getD i 0 ≤ 1000 := by
  by_cases hi : i < l.length
  · exact h.bd _ (getD_mem hi)
  · rw [getD_outP hi]; omega
theorem Shs.sum {l : List Int} {NN : Nat} (h : Shs l NN) : ∀ n, n ≤ 64 → sumF l n = sm (fun i => l.getD i 0) n ∧ 0 ≤ sumF l n ∧ sumF l n ≤ 1000 * n
  | 0, _ => ⟨rfl, Int.le_refl 0, Int.le_refl 0⟩
  | n + 1, hn => by
    obtain ⟨h1, h2, h3⟩ := h.sum n (by omega)
    have h4 := h.at n
    have e : sumF l (n + 1) = W (sumF l n + l.getD n 0) := rfl
    rw [e, show W (sumF l n + l.getD n 0) = sumF l n + l.getD n 0 from w64 (by omega) (by omega), sm, ← h1]
    exact ⟨rfl, by omega, by omega⟩
theorem mix_ent {l : List Int} {nx ny : Nat} (hx : nx ≤ 3) (hy : ny ≤ 3) (h : Shs l (2 ^ (nx + ny))) {q e : Nat} (hq : q < nx * ny) (he : e < 4) : ∀ n, n ≤ 2 ^ (nx + ny) →
    ent (mixTo l nx ny n) q e = sm (fun i => l.getD i 0 * ent (uB nx ny i) q e) n ∧ 0 ≤ ent (mixTo l nx ny n) q e ∧ ent (mixTo l nx ny n) q e ≤ 1000 * n
  | 0, _ => by
    have e0 : ent (mixTo l nx ny 0) q e = 0 := by
      unfold ent
      show ((zeroR (nx * ny)).getD q []).getD e 0 = 0
      have hz : (zeroR (nx * ny)).getD q [] = [0, 0, 0, 0] := by simp [zeroR, List.getD, hq]
      rw [hz]
      have : e = 0 ∨ e = 1 ∨ e = 2 ∨ e = 3 := by omega
      rcases this with rfl | rfl | rfl | rfl <;> rfl
    rw [e0]
    exact ⟨rfl, Int.le_refl 0, Int.le_refl 0⟩
  | n + 1, hn => by
    obtain ⟨h1, h2, h3⟩ := mix_ent hx hy h hq he n (by omega)
    obtain ⟨_, p2⟩ := playsL_row (n := nx + ny) (x := n) (by omega) (by rw [playsL_len]; omega)
    have e1 : mixTo l nx ny (n + 1) = mixFl ((playsL (nx + ny)).getD n []) (l.getD n 0) nx ny (mixTo l nx ny n) (nx * ny) := by rw [mixFl_eq]; rfl
    have h4 := h.at n
    have h64 := h.le
    rw [e1, mixFl_ent p2 (Sq.mix l nx ny n) q e _ (Nat.le_refl _), sm, uB_ent hx hy (by omega) hq he]
    by_cases c : e = bitIx ((playsL (nx + ny)).getD n []) nx (q / ny) (q % ny)
    · rw [if_pos ⟨hq, c⟩, if_pos c, show W (ent (mixTo l nx ny n) q e + l.getD n 0) = ent (mixTo l nx ny n) q e + l.getD n 0 from w64 (by omega) (by omega), h1]
      rw [h1] at h2 h3
      exact ⟨by omega, by omega, by omega⟩
    · rw [if_neg (fun hh => c hh.2), if_neg c, h1]
      rw [h1] at h2 h3
      exact ⟨by omega, by omega, by omega⟩

/-- linear in the numbers of a box -/
def lf (c : Nat → Nat → Int) (n : Nat) (m : List (List Int)) : Int := sm (fun q => sm (fun e => c q e * ent m q e) 4) n
def Lin (n : Nat) (F : List (List Int) → Int) : Prop := ∃ c, ∀ m, F m = lf c n m
theorem Lin.add {n : Nat} {F G : List (List Int) → Int} (hF : Lin n F) (hG : Lin n G) : Lin n (fun m => F m + G m) := by
  obtain ⟨c, hc⟩ := hF
  obtain ⟨d, hd⟩ := hG
  refine ⟨fun q e => c q e + d q e, fun m => ?_⟩
  show F m + G m = _
  rw [hc, hd]; unfold lf
  rw [← sm_add]
  refine sm_congr fun q _ => ?_
  rw [← sm_add]
  exact sm_congr fun e _ => by rw [Int.add_mul]
theorem Lin.smul {n : Nat} {F : List (List Int) → Int} (k : Int) (hF : Lin n F) : Lin n (fun m => k * F m) := by
  obtain ⟨c, hc⟩ := hF
  refine ⟨fun q e => k * c q e, fun m => ?_⟩
  show k * F m = _
  rw [hc]; unfold lf
  rw [← sm_mul]
  refine sm_congr fun q _ => ?_
  rw [← sm_mul]
  exact sm_congr fun e _ => by rw [Int.mul_assoc]
theorem Lin.of {n : Nat} {F G : List (List Int) → Int} (hF : Lin n F) (h : ∀ m, G m = F m) : Lin n G := by
  obtain ⟨c, hc⟩ := hF
  exact ⟨c, fun m => by rw [h, hc]⟩
theorem Lin.neg {n : Nat} {F : List (List Int) → Int} (hF : Lin n F) : Lin n (fun m => - F m) := (hF.smul (-1)).of fun m => by omega
theorem Lin.sub {n : Nat} {F G : List (List Int) → Int} (hF : Lin n F) (hG : Lin n G) : Lin n (fun m => F m - G m) := (hF.add hG.neg).of fun m => by omega
theorem sm_one {f : Nat → Int} {k : Nat} : ∀ {n : Nat}, k < n → (∀ i, i < n → i ≠ k → f i = 0) → sm f n = f k
  | n + 1, hk, h => by
    rw [sm]
    by_cases e : k = n
    · subst e
      rw [sm_congr (g := fun _ => 0) (fun i hi => h i (by omega) (by omega)), sm_zero]; omega
    · rw [sm_one (n := n) (by omega) (fun i hi => h i (by omega)), h n (by omega) (by omega)]; omega
def dl (q e q' e' : Nat) : Int := if q' = q ∧ e' = e then 1 else 0
theorem Lin.ent {n q e : Nat} (hq : q < n) (he : e < 4) : Lin n (fun m => ent m q e) := by
  refine ⟨dl q e, fun m => ?_⟩
  show Go.Proofs.Ytkomndcehdneaaa.ent m q e = _
  unfold lf
  rw [sm_one (k := q) hq (fun i hi hne => by rw [sm_congr (g := fun _ => 0) (fun j _ => by rw [dl, if_neg (fun hh => hne hh.1), Int.zero_mul]), sm_zero]), sm_one (k := e) he (fun j hj hne => by rw [dl, if_neg (fun hh => hne hh.2), Int.zero_mul]), dl, if_pos ⟨rfl, rfl⟩, Int.one_mul]
theorem lin_eq {n NN : Nat} {F : List (List Int) → Int} (hF : Lin n F) {k : List (List Int)} {w z : Int} {l : List Int} {U : Nat → List (List Int)}
    (hk : ∀ q e, q < n → e < 4 → Go.Proofs.Ytkomndcehdneaaa.ent k q e * w = z * sm (fun i => l.getD i 0 * Go.Proofs.Ytkomndcehdneaaa.ent (U i) q e) NN) : F k * w = z * sm (fun i => l.getD i 0 * F (U i)) NN := by
  obtain ⟨c, hc⟩ := hF
  have e1 : F k * w = sm (fun q => sm (fun e => sm (fun i => c q e * (z * (l.getD i 0 * Go.Proofs.Ytkomndcehdneaaa.ent (U i) q e))) NN) 4) n := by
    rw [hc, lf, ← sm_mul_r]
    refine sm_congr fun q hq => ?_
    rw [← sm_mul_r]
    refine sm_congr fun e he => ?_
    rw [Int.mul_assoc, hk q e hq he, ← sm_mul, ← sm_mul]
  have e2 : z * sm (fun i => l.getD i 0 * F (U i)) NN = sm (fun i => sm (fun q => sm (fun e => c q e * (z * (l.getD i 0 * Go.Proofs.Ytkomndcehdneaaa.ent (U i) q e))) 4) n) NN := by
    rw [← sm_mul]
    refine sm_congr fun i _ => ?_
    rw [hc, lf, ← sm_mul, ← sm_mul]
    refine sm_congr fun q _ => ?_
    rw [← sm_mul, ← sm_mul]
    refine sm_congr fun e _ => ?_
    rw [Int.mul_left_comm (l.getD i 0) (c q e), Int.mul_left_comm z (c q e)]
  rw [e1, e2, sm_comm (fun i q => sm (fun e => c q e * (z * (l.getD i 0 * Go.Proofs.Ytkomndcehdneaaa.ent (U i) q e))) 4) n NN]
  refine sm_congr fun q _ => ?_
  rw [sm_comm (fun i e => c q e * (z * (l.getD i 0 * Go.Proofs.Ytkomndcehdneaaa.ent (U i) q e))) 4 NN]
theorem lin_le {n NN : Nat} {F : List (List Int) → Int} (hF : Lin n F) {k : List (List Int)} {w z B : Int} {l : List Int} {U : Nat → List (List Int)} (hw : 0 < w) (hz : 0 ≤ z)
    (hl : ∀ i, 0 ≤ l.getD i 0) (hs : sm (fun i => l.getD i 0) NN = w)
    (hk : ∀ q e, q < n → e < 4 → Go.Proofs.Ytkomndcehdneaaa.ent k q e * w = z * sm (fun i => l.getD i 0 * Go.Proofs.Ytkomndcehdneaaa.ent (U i) q e) NN) (hU : ∀ i, i < NN → F (U i) ≤ B) : F k ≤ z * B := by
  have h1 := lin_eq hF hk
  have h2 : sm (fun i => l.getD i 0 * F (U i)) NN ≤ w * B := by
    rw [← hs, ← sm_mul_r]
    exact sm_le fun i hi => Int.mul_le_mul_of_nonneg_left (hU i hi) (hl i)
  have h3 : F k * w ≤ z * B * w := by
    rw [h1, Int.mul_assoc, Int.mul_comm B w]
    exact Int.mul_le_mul_of_nonneg_left h2 hz
  exact Int.le_of_mul_le_mul_right h3 hw
end Go.Proofs.Ytkomndcehdneaaa
/- Sums of four agreements: pairs of questions, one sum; reference and program. -/
namespace Go.Aw
/-- the pairs that begin with one number, in order -/
def prRow (a k : Nat) : List (List Int × List (List Int)) := (List.range k).map fun j => ([(a : Int), ((a + 1 + j : Nat) : Int)], [])
/-- the pairs that begin with numbers less than i -/
def prTo (n i : Nat) : List (List Int × List (List Int)) := (List.range i).flatMap fun a => prRow a (n - (a + 1))
def prs (n : Nat) : List (List Int × List (List Int)) := prTo n n
theorem prRow_succ (a k : Nat) : prRow a k ++ [([(a : Int), ((a + 1 + k : Nat) : Int)], [])] = prRow a (k + 1) := by simp [prRow, List.range_succ]
theorem prTo_succ (n i : Nat) : prTo n i ++ prRow i (n - (i + 1)) = prTo n (i + 1) := by simp [prTo, List.range_succ]
theorem prRow_len (a k : Nat) : (prRow a k).length = k := by simp [prRow]
theorem prTo_len (n : Nat) (hn : n ≤ 1000) : ∀ i, i ≤ n → (prTo n i).length ≤ i * 1000
  | 0, _ => by simp [prTo]
  | i + 1, h => by
    rw [← prTo_succ, List.length_append, prRow_len]
    have := prTo_len n hn i (by omega)
    omega
/-- what the pairs are -/
theorem prs_at {n i : Nat} (hn : n ≤ 3) (h : i < (prs n).length) : ∃ a b : Nat, (prs n).getD i ([], []) = ([(a : Int), (b : Int)], []) ∧ a < b ∧ b < n := by
  have h3 : n = 0 ∨ n = 1 ∨ n = 2 ∨ n = 3 := by omega
  rcases h3 with rfl | rfl | rfl | rfl
  · simp [prs, prTo] at h
  · simp [prs, prTo, prRow] at h
  · have hl : (prs 2).length = 1 := by decide
    have : i = 0 := by omega
    subst this; exact ⟨0, 1, rfl, by omega, by omega⟩
  · have hl : (prs 3).length = 3 := by decide
    have : i = 0 ∨ i = 1 ∨ i = 2 := by omega
    rcases this with rfl | rfl | rfl
    · exact ⟨0, 1, rfl, by omega, by omega⟩
    · exact ⟨0, 2, rfl, by omega, by omega⟩
    · exact ⟨1, 2, rfl, by omega, by omega⟩
theorem prs_len {n : Nat} (hn : n ≤ 3) : (prs n).length ≤ 3 := by
  have h3 : n = 0 ∨ n = 1 ∨ n = 2 ∨ n = 3 := by omega
  rcases h3 with rfl | rfl | rfl | rfl <;> decide
/-- each pair is among them -/
theorem prs_all {n a b : Nat} (hn : n ≤ 3) (h1 : a < b) (h2 : b < n) : ∃ i, i < (prs n).length ∧ (prs n).getD i ([], []) = ([(a : Int), (b : Int)], []) := by
  have h3 : n = 2 ∨ n = 3 := by omega
  rcases h3 with rfl | rfl
  · have : a = 0 ∧ b = 1 := by omega
    obtain ⟨rfl, rfl⟩ := this
    exact ⟨0, by decide, rfl⟩
  · have : (a = 0 ∧ b = 1) ∨ (a = 0 ∧ b = 2) ∨ (a = 1 ∧ b = 2) := by omega
    rcases this with ⟨rfl, rfl⟩ | ⟨rfl, rfl⟩ | ⟨rfl, rfl⟩
    · exact ⟨0, by decide, rfl⟩
    · exact ⟨1, by decide, rfl⟩
    · exact ⟨2, by decide, rfl⟩

/-- a sum of four agreements, one with a minus -/
def agAt (m : List (List Int)) (p : Nat) : Int := agr (m.getD p [])
def sgn (k j : Nat) (x : Int) : Int := if j = k then -x else x
def sum4V (ny : Nat) (m : List (List Int)) (a b c d k : Nat) : Int :=
  sgn k 0 (agAt m (a * ny + c)) + sgn k 1 (agAt m (a * ny + d)) + sgn k 2 (agAt m (b * ny + c)) + sgn k 3 (agAt m (b * ny + d))
/-- agreements that are not too great -/
def AgB (m : List (List Int)) : Prop := ∀ p, -1000 ≤ agAt m p ∧ agAt m p ≤ 1000
theorem sgn_bd {m : List (List Int)} (h : AgB m) (k j p : Nat) : -1000 ≤ sgn k j (agAt m p) ∧ sgn k j (agAt m p) ≤ 1000 := by
  have := h p
  unfold sgn; split <;> omega
theorem sum4_bd {m : List (List Int)} (h : AgB m) (ny a b c d k : Nat) : -4000 ≤ sum4V ny m a b c d k ∧ sum4V ny m a b c d k ≤ 4000 := by
  have h0 := sgn_bd h k 0 (a * ny + c)
  have h1 := sgn_bd h k 1 (a * ny + d)
  have h2 := sgn_bd h k 2 (b * ny + c)
  have h3 := sgn_bd h k 3 (b * ny + d)
  unfold sum4V; omega
end Go.Aw
namespace Go.Proofs.Ytkomndcehdneaaa.L
open Go.Aw
set_option maxRecDepth 100000
set_option maxHeartbeats 4000000

theorem ag_bd {m : List (List Int)} {z : Int} (hz : z ≤ 1000) (hm : ∀ r, r ∈ m → r.length = 4 ∧ (∀ v, v ∈ r → 0 ≤ v ∧ v ≤ z) ∧ sumF r r.length = z) : AgB m := fun p => by
  unfold agAt
  by_cases hp : p < m.length
  · obtain ⟨h1, h2, h3⟩ := hm _ (getD_mem (d := []) hp)
    obtain ⟨a, b, c, d, e, ha, hb, hc, hd, hs⟩ := row4 hz h1 h2 h3
    rw [e]
    have e1 : agr [a, b, c, d] = W (W (W (a - b) - c) + d) := rfl
    rw [e1, wS (n := a - b) (by omega) (by omega), wS (n := a - b - c) (by omega) (by omega), wS (n := a - b - c + d) (by omega) (by omega)]
    omega
  · have e : m.getD p [] = [] := by rw [List.getD_eq_getElem?_getD, List.getElem?_eq_none (by omega)]; rfl
    rw [e]
    have : agr [] = 0 := rfl
    omega

theorem pairs_spec (n : Nat) (hn : n ≤ 1000) : FSpec Try.prog 260 [.c (.int .i64 (n))] (ex (.t (.recs 101 (prs n))) []) := by
  have bd : ∀ i, i ≤ n → i * 1000 ≤ 1000000 := fun i hi => by omega
  have key : FSpec Try.prog 260 [.c (.int .i64 (n))] (ex (.own 0) [(0, .recs 158 101 (prs n))]) := by
    refine fspec tyOk mx Try.func260 rfl (by kernel_rfl) rfl ?_
    conv => whnf
    refine aloopI tyOk mx (fun i : Nat => (⟨26, [(0, .c (.int .i64 (n))), (3, .own 0), (7, .c (.int .i64 (n))), (8, .c (.int .i64 (i)))], [(0, .recs 158 101 (prTo n i))], 1⟩ : St)) (fun i => i ≤ n) (fun i => n - i) 0 (Nat.zero_le _) none (by refine ⟨rfl, rfl, ?_, ?_⟩ <;> ((repeat' (first | exact trivial | exact rfl | refine And.intro ?_ ?_)) <;> (try ((conv => whnf); first | refine vint ?_ | refine vboo ?_ | refine rint ?_ | refine rrow ?_ | skip)) <;> (try first | omega | (simp; done) | ((repeat rw [flts_closed _ (by assumption)]); exact vws_closed _ (by assumption))))) (fun i hi => ?_)
    refine ⟨fun h => ?_, fun h => ?_⟩
    · have h := ltT h
      conv => whnf
      rw [nat_wrap (by omega)]
      refine aloopI tyOk mx (fun k : Nat => (⟨26, [(0, .c (.int .i64 (n))), (3, .own 0), (4, .c (.int .i64 (i))), (5, .c (.int .i64 ((i + 1 + k : Nat)))), (7, .c (.int .i64 (n))), (8, .c (.int .i64 (i)))], [(0, .recs 158 101 (prTo n i ++ prRow i k))], 1⟩ : St)) (fun k => k ≤ n - (i + 1)) (fun k => n - (i + 1) - k) 0 (Nat.zero_le _) none (by refine ⟨rfl, rfl, ?_, ?_⟩ <;> (repeat' (first | exact trivial | exact rfl | refine And.intro ?_ ?_)) <;> exact congrArg (ARow.recs _ _) (by simp [prRow])) (fun k hk => ?_)
      refine ⟨fun h2 => ?_, fun h2 => ?_⟩
      · have h2 : i + 1 + k < n := ltT h2
        have b1 := prTo_len n hn i hi
        have b2 := bd i hi
        have b3 := prRow_len i k
        conv => whnf
        refine ⟨by simp [room]; omega, ?_⟩
        conv => whnf
        rw [nat_wrap (by omega)]
        refine ⟨k + 1, none, ?_, by omega, by omega⟩
        rw [← prRow_succ, ← List.append_assoc]
        (refine ⟨rfl, rfl, ?_, ?_⟩ <;> ((repeat' (first | exact trivial | exact rfl | refine And.intro ?_ ?_)) <;> (try ((conv => whnf); first | refine vint ?_ | refine vboo ?_ | refine rint ?_ | refine rrow ?_ | skip)) <;> (try first | omega | (simp; done) | ((repeat rw [flts_closed _ (by assumption)]); exact vws_closed _ (by assumption)))))
      · have h2 : ¬ i + 1 + k < n := ltF h2
        obtain rfl : k = n - (i + 1) := by omega
        rw [prTo_succ]
        conv => whnf
        rw [nat_wrap (by omega)]
        exact ⟨i + 1, none, (by refine ⟨rfl, rfl, ?_, ?_⟩ <;> ((repeat' (first | exact trivial | exact rfl | refine And.intro ?_ ?_)) <;> (try ((conv => whnf); first | refine vint ?_ | refine vboo ?_ | refine rint ?_ | refine rrow ?_ | skip)) <;> (try first | omega | (simp; done) | ((repeat rw [flts_closed _ (by assumption)]); exact vws_closed _ (by assumption))))), by omega, by omega⟩
    · have h := ltF h
      obtain rfl : i = n := by omega
      conv => whnf
      exact ⟨rfl, rfl⟩
  exact FSpec.toldL key (x' := .t (.recs 101 (prs n))) ⟨rfl, rfl⟩

theorem four_spec (ny a b c d : Nat) (hy : ny ≤ 3) (ha : a ≤ 3) (hb : b ≤ 3) (hc : c ≤ 3) (hd : d ≤ 3) :
    FSpec Try.prog 266 [.c (.int .i64 (ny)), .ag [.c (.int .i64 (a)), .c (.int .i64 (b))], .ag [.c (.int .i64 (c)), .c (.int .i64 (d))]] (ex (.ag [.c (.int .i64 ((a * ny + c : Nat))), .c (.int .i64 ((a * ny + d : Nat))), .c (.int .i64 ((b * ny + c : Nat))), .c (.int .i64 ((b * ny + d : Nat)))]) []) := by
  have m1 : a * ny ≤ 3 * 3 := Nat.mul_le_mul ha hy
  have m2 : b * ny ≤ 3 * 3 := Nat.mul_le_mul hb hy
  refine fspec tyOk mx Try.func266 rfl (by kernel_rfl) rfl ?_
  conv => whnf
  refine ⟨0, rfl, by omega, by simp, ?_⟩
  conv => whnf
  refine ⟨0, rfl, by omega, by simp, ?_⟩
  conv => whnf
  refine ⟨0, rfl, by omega, by simp, ?_⟩
  conv => whnf
  refine ⟨1, rfl, by omega, by simp, ?_⟩
  conv => whnf
  refine ⟨1, rfl, by omega, by simp, ?_⟩
  conv => whnf
  refine ⟨0, rfl, by omega, by simp, ?_⟩
  conv => whnf
  refine ⟨1, rfl, by omega, by simp, ?_⟩
  conv => whnf
  refine ⟨1, rfl, by omega, by simp, ?_⟩
  conv => whnf
  rw [natMulAdd (by omega), natMulAdd (by omega), natMulAdd (by omega), natMulAdd (by omega)]
  exact ⟨rfl, rfl⟩
/-- the first terms of a sum -/
def sumT (ny : Nat) (m : List (List Int)) (a b c d k : Nat) : Nat → Int
  | 0 => 0
  | 1 => sgn k 0 (agAt m (a * ny + c))
  | 2 => sgn k 0 (agAt m (a * ny + c)) + sgn k 1 (agAt m (a * ny + d))
  | 3 => sgn k 0 (agAt m (a * ny + c)) + sgn k 1 (agAt m (a * ny + d)) + sgn k 2 (agAt m (b * ny + c))
  | _ => sum4V ny m a b c d k
theorem sgn_sub {k j : Nat} (h : j = k) (s x : Int) : s - x = s + sgn k j x := by rw [sgn, if_pos h]; omega
theorem sgn_add {k j : Nat} (h : ¬ j = k) (s x : Int) : s + x = s + sgn k j x := by rw [sgn, if_neg h]
theorem sum_spec (nx ny a b c d k : Nat) (z : Int) (m : List (List Int)) (hx : nx ≤ 3) (hy : ny ≤ 3) (hab : a < b) (hbx : b < nx) (hcd : c < d) (hdy : d < ny) (hk : k ≤ 4) (hm : m.length = nx * ny) (h4 : ∀ r, r ∈ m → r.length = 4) (hB : AgB m) :
    FSpec Try.prog 261 [.ag [.c (.int .i64 (nx)), .c (.int .i64 (ny)), .c (.int .i64 (z)), .t (.rows m)], .ag [.c (.int .i64 (a)), .c (.int .i64 (b))], .ag [.c (.int .i64 (c)), .c (.int .i64 (d))], .c (.int .i64 (k))] (ex (.c (.int .i64 (sum4V ny m a b c d k))) []) := by
  have i0 := ix_lt (show a < nx by omega) (show c < ny by omega)
  have i1 := ix_lt (show a < nx by omega) hdy
  have i2 := ix_lt hbx (show c < ny by omega)
  have i3 := ix_lt hbx hdy
  have s0 := sgn_bd hB k 0 (a * ny + c)
  have s1 := sgn_bd hB k 1 (a * ny + d)
  have s2 := sgn_bd hB k 2 (b * ny + c)
  have s3 := sgn_bd hB k 3 (b * ny + d)
  have e4 : sum4V ny m a b c d k = sgn k 0 (agAt m (a * ny + c)) + sgn k 1 (agAt m (a * ny + d)) + sgn k 2 (agAt m (b * ny + c)) + sgn k 3 (agAt m (b * ny + d)) := rfl
  refine fspec tyOk mx Try.func261 rfl (by kernel_rfl) rfl ?_
  conv => whnf
  refine ACall.use (four_spec ny a b c d hy (by omega) (by omega) (by omega) (by omega)) ?_
  conv => whnf
  refine aloopI tyOk mx (fun i : Nat => (⟨42, [(3, .c (.int .i64 (k))), (4, .ptr 0 0), (9, .c (.int .i64 (sumT ny m a b c d k i))), (16, .ag [.c (.int .i64 ((a * ny + c : Nat))), .c (.int .i64 ((a * ny + d : Nat))), .c (.int .i64 ((b * ny + c : Nat))), .c (.int .i64 ((b * ny + d : Nat)))]), (17, .c (.int .i64 (i)))], [(0, .cells 53 [.c (.int .i64 (nx)), .c (.int .i64 (ny)), .c (.int .i64 (z)), .t (.rows m)])], 1⟩ : St)) (fun i => i ≤ 4) (fun i => 4 - i) 0 (by omega) none (by refine ⟨rfl, rfl, ?_, ?_⟩ <;> ((repeat' (first | exact trivial | exact rfl | refine And.intro ?_ ?_)) <;> (try ((conv => whnf); first | refine vint ?_ | refine vboo ?_ | refine rint ?_ | refine rrow ?_ | skip)) <;> (try first | omega | (simp; done) | ((repeat rw [flts_closed _ (by assumption)]); exact vws_closed _ (by assumption))))) (fun i hi => ?_)
  refine ⟨fun h => ?_, fun h => ?_⟩
  · have h : i < 4 := by have := of_decide_eq_true h; omega
    have h4' : i = 0 ∨ i = 1 ∨ i = 2 ∨ i = 3 := by omega
    rcases h4' with rfl | rfl | rfl | rfl
    · conv => whnf
      refine ⟨0, rfl, by omega, ?_⟩
      conv => whnf
      have r4 := h4 _ (getD_mem (d := []) (show a * ny + c < m.length by omega))
      refine ⟨fun h2 => ?_, fun h2 => ?_⟩
      · have h2 : 0 = k := by have := eq_of_beq h2; omega
        have e : IntKind.i64.wrap (sumT ny m a b c d k 0 - agr (m.getD (a * ny + c) [])) = sumT ny m a b c d k 1 := by
          rw [show agr (m.getD (a * ny + c) []) = agAt m (a * ny + c) from rfl, sgn_sub h2]
          simp only [sumT, sum4V]
          rw [w64 (by omega) (by omega)]; try omega
        conv => whnf
        refine ⟨a * ny + c, rfl, by omega, ?_⟩
        conv => whnf
        refine ACall.use (agreement_spec _ r4) ?_
        conv => whnf
        rw [e]
        exact ⟨1, none, (by refine ⟨rfl, rfl, ?_, ?_⟩ <;> ((repeat' (first | exact trivial | exact rfl | refine And.intro ?_ ?_)) <;> (try ((conv => whnf); first | refine vint ?_ | refine vboo ?_ | refine rint ?_ | refine rrow ?_ | skip)) <;> (try first | omega | (simp; done) | ((repeat rw [flts_closed _ (by assumption)]); exact vws_closed _ (by assumption))))), by omega, by omega⟩
      · have h2 : ¬ 0 = k := fun e => by rw [← e] at h2; exact absurd h2 (by decide)
        have e : IntKind.i64.wrap (sumT ny m a b c d k 0 + agr (m.getD (a * ny + c) [])) = sumT ny m a b c d k 1 := by
          rw [show agr (m.getD (a * ny + c) []) = agAt m (a * ny + c) from rfl, sgn_add h2]
          simp only [sumT, sum4V]
          rw [w64 (by omega) (by omega)]; try omega
        conv => whnf
        refine ⟨a * ny + c, rfl, by omega, ?_⟩
        conv => whnf
        refine ACall.use (agreement_spec _ r4) ?_
        conv => whnf
        rw [e]
        exact ⟨1, none, (by refine ⟨rfl, rfl, ?_, ?_⟩ <;> ((repeat' (first | exact trivial | exact rfl | refine And.intro ?_ ?_)) <;> (try ((conv => whnf); first | refine vint ?_ | refine vboo ?_ | refine rint ?_ | refine rrow ?_ | skip)) <;> (try first | omega | (simp; done) | ((repeat rw [flts_closed _ (by assumption)]); exact vws_closed _ (by assumption))))), by omega, by omega⟩
    · conv => whnf
      refine ⟨1, rfl, by omega, ?_⟩
      conv => whnf
      have r4 := h4 _ (getD_mem (d := []) (show a * ny + d < m.length by omega))
      refine ⟨fun h2 => ?_, fun h2 => ?_⟩
      · have h2 : 1 = k := by have := eq_of_beq h2; omega
        have e : IntKind.i64.wrap (sumT ny m a b c d k 1 - agr (m.getD (a * ny + d) [])) = sumT ny m a b c d k 2 := by
          rw [show agr (m.getD (a * ny + d) []) = agAt m (a * ny + d) from rfl, sgn_sub h2]
          simp only [sumT, sum4V]
          rw [w64 (by omega) (by omega)]; try omega
        conv => whnf
        refine ⟨a * ny + d, rfl, by omega, ?_⟩
        conv => whnf
        refine ACall.use (agreement_spec _ r4) ?_
        conv => whnf
        rw [e]
        exact ⟨2, none, (by refine ⟨rfl, rfl, ?_, ?_⟩ <;> ((repeat' (first | exact trivial | exact rfl | refine And.intro ?_ ?_)) <;> (try ((conv => whnf); first | refine vint ?_ | refine vboo ?_ | refine rint ?_ | refine rrow ?_ | skip)) <;> (try first | omega | (simp; done) | ((repeat rw [flts_closed _ (by assumption)]); exact vws_closed _ (by assumption))))), by omega, by omega⟩
      · have h2 : ¬ 1 = k := fun e => by rw [← e] at h2; exact absurd h2 (by decide)
        have e : IntKind.i64.wrap (sumT ny m a b c d k 1 + agr (m.getD (a * ny + d) [])) = sumT ny m a b c d k 2 := by
          rw [show agr (m.getD (a * ny + d) []) = agAt m (a * ny + d) from rfl, sgn_add h2]
          simp only [sumT, sum4V]
          rw [w64 (by omega) (by omega)]; try omega
        conv => whnf
        refine ⟨a * ny + d, rfl, by omega, ?_⟩
        conv => whnf
        refine ACall.use (agreement_spec _ r4) ?_
        conv => whnf
        rw [e]
        exact ⟨2, none, (by refine ⟨rfl, rfl, ?_, ?_⟩ <;> ((repeat' (first | exact trivial | exact rfl | refine And.intro ?_ ?_)) <;> (try ((conv => whnf); first | refine vint ?_ | refine vboo ?_ | refine rint ?_ | refine rrow ?_ | skip)) <;> (try first | omega | (simp; done) | ((repeat rw [flts_closed _ (by assumption)]); exact vws_closed _ (by assumption))))), by omega, by omega⟩
    · conv => whnf
      refine ⟨2, rfl, by omega, ?_⟩
      conv => whnf
      have r4 := h4 _ (getD_mem (d := []) (show b * ny + c < m.length by omega))
      refine ⟨fun h2 => ?_, fun h2 => ?_⟩
      · have h2 : 2 = k := by have := eq_of_beq h2; omega
        have e : IntKind.i64.wrap (sumT ny m a b c d k 2 - agr (m.getD (b * ny + c) [])) = sumT ny m a b c d k 3 := by
          rw [show agr (m.getD (b * ny + c) []) = agAt m (b * ny + c) from rfl, sgn_sub h2]
          simp only [sumT, sum4V]
          rw [w64 (by omega) (by omega)]; try omega
        conv => whnf
        refine ⟨b * ny + c, rfl, by omega, ?_⟩
        conv => whnf
        refine ACall.use (agreement_spec _ r4) ?_
        conv => whnf
        rw [e]
        exact ⟨3, none, (by refine ⟨rfl, rfl, ?_, ?_⟩ <;> ((repeat' (first | exact trivial | exact rfl | refine And.intro ?_ ?_)) <;> (try ((conv => whnf); first | refine vint ?_ | refine vboo ?_ | refine rint ?_ | refine rrow ?_ | skip)) <;> (try first | omega | (simp; done) | ((repeat rw [flts_closed _ (by assumption)]); exact vws_closed _ (by assumption))))), by omega, by omega⟩
      · have h2 : ¬ 2 = k := fun e => by rw [← e] at h2; exact absurd h2 (by decide)
        have e : IntKind.i64.wrap (sumT ny m a b c d k 2 + agr (m.getD (b * ny + c) [])) = sumT ny m a b c d k 3 := by
          rw [show agr (m.getD (b * ny + c) []) = agAt m (b * ny + c) from rfl, sgn_add h2]
          simp only [sumT, sum4V]
          rw [w64 (by omega) (by omega)]; try omega
        conv => whnf
        refine ⟨b * ny + c, rfl, by omega, ?_⟩
        conv => whnf
        refine ACall.use (agreement_spec _ r4) ?_
        conv => whnf
        rw [e]
        exact ⟨3, none, (by refine ⟨rfl, rfl, ?_, ?_⟩ <;> ((repeat' (first | exact trivial | exact rfl | refine And.intro ?_ ?_)) <;> (try ((conv => whnf); first | refine vint ?_ | refine vboo ?_ | refine rint ?_ | refine rrow ?_ | skip)) <;> (try first | omega | (simp; done) | ((repeat rw [flts_closed _ (by assumption)]); exact vws_closed _ (by assumption))))), by omega, by omega⟩
    · conv => whnf
      refine ⟨3, rfl, by omega, ?_⟩
      conv => whnf
      have r4 := h4 _ (getD_mem (d := []) (show b * ny + d < m.length by omega))
      refine ⟨fun h2 => ?_, fun h2 => ?_⟩
      · have h2 : 3 = k := by have := eq_of_beq h2; omega
        have e : IntKind.i64.wrap (sumT ny m a b c d k 3 - agr (m.getD (b * ny + d) [])) = sumT ny m a b c d k 4 := by
          rw [show agr (m.getD (b * ny + d) []) = agAt m (b * ny + d) from rfl, sgn_sub h2]
          simp only [sumT, sum4V]
          rw [w64 (by omega) (by omega)]; try omega
        conv => whnf
        refine ⟨b * ny + d, rfl, by omega, ?_⟩
        conv => whnf
        refine ACall.use (agreement_spec _ r4) ?_
        conv => whnf
        rw [e]
        exact ⟨4, none, (by refine ⟨rfl, rfl, ?_, ?_⟩ <;> ((repeat' (first | exact trivial | exact rfl | refine And.intro ?_ ?_)) <;> (try ((conv => whnf); first | refine vint ?_ | refine vboo ?_ | refine rint ?_ | refine rrow ?_ | skip)) <;> (try first | omega | (simp; done) | ((repeat rw [flts_closed _ (by assumption)]); exact vws_closed _ (by assumption))))), by omega, by omega⟩
      · have h2 : ¬ 3 = k := fun e => by rw [← e] at h2; exact absurd h2 (by decide)
        have e : IntKind.i64.wrap (sumT ny m a b c d k 3 + agr (m.getD (b * ny + d) [])) = sumT ny m a b c d k 4 := by
          rw [show agr (m.getD (b * ny + d) []) = agAt m (b * ny + d) from rfl, sgn_add h2]
          simp only [sumT, sum4V]
          rw [w64 (by omega) (by omega)]; try omega
        conv => whnf
        refine ⟨b * ny + d, rfl, by omega, ?_⟩
        conv => whnf
        refine ACall.use (agreement_spec _ r4) ?_
        conv => whnf
        rw [e]
        exact ⟨4, none, (by refine ⟨rfl, rfl, ?_, ?_⟩ <;> ((repeat' (first | exact trivial | exact rfl | refine And.intro ?_ ?_)) <;> (try ((conv => whnf); first | refine vint ?_ | refine vboo ?_ | refine rint ?_ | refine rrow ?_ | skip)) <;> (try first | omega | (simp; done) | ((repeat rw [flts_closed _ (by assumption)]); exact vws_closed _ (by assumption))))), by omega, by omega⟩
  · have h : ¬ i < 4 := by have := of_decide_eq_false h; omega
    obtain rfl : i = 4 := by omega
    conv => whnf
    exact ⟨rfl, rfl⟩
end Go.Proofs.Ytkomndcehdneaaa.L
/- The greatest sum of a box: program. -/
namespace Go.Aw
def abV (t : Int) : Int := if t < 0 then -t else t
theorem abV_bd {t : Int} (h : -4000 ≤ t ∧ t ≤ 4000) : 0 ≤ abV t ∧ abV t ≤ 4000 := by unfold abV; split <;> omega
/-- the greatest sum of a box without its sign, 0 where there is none -/
structure GSum (nx ny : Nat) (m : List (List Int)) (g : Int) : Prop where
  pos : 0 ≤ g
  all : ∀ a b c d k, a < b → b < nx → c < d → d < ny → k < 4 → abV (sum4V ny m a b c d k) ≤ g
  own : g = 0 ∨ ∃ a b c d k, a < b ∧ b < nx ∧ c < d ∧ d < ny ∧ k < 4 ∧ g = abV (sum4V ny m a b c d k)
theorem GSum.one {nx ny : Nat} {m : List (List Int)} {g g' : Int} (h : GSum nx ny m g) (h' : GSum nx ny m g') : g = g' := by
  have key : ∀ {g g' : Int}, GSum nx ny m g → GSum nx ny m g' → g ≤ g' := fun {g g'} h h' => by
    rcases h.own with e | ⟨a, b, c, d, k, h1, h2, h3, h4, h5, e⟩
    · rw [e]; exact h'.pos
    · rw [e]; exact h'.all a b c d k h1 h2 h3 h4 h5
  have := key h h'
  have := key h' h
  omega
/-- the entries of the list of pairs -/
def qa (n i : Nat) : Nat := (((prs n).getD i ([], [])).1.getD 0 0).toNat
def qb (n i : Nat) : Nat := (((prs n).getD i ([], [])).1.getD 1 0).toNat
theorem q_at {n i : Nat} (hn : n ≤ 3) (h : i < (prs n).length) : ((prs n).getD i ([], [])).1.getD 0 0 = (qa n i : Int) ∧ ((prs n).getD i ([], [])).1.getD 1 0 = (qb n i : Int) ∧ qa n i < qb n i ∧ qb n i < n := by
  obtain ⟨a, b, e, h1, h2⟩ := prs_at hn h
  have ea : qa n i = a := by rw [qa, e]; simp
  have eb : qb n i = b := by rw [qb, e]; simp
  rw [ea, eb, e]
  exact ⟨rfl, rfl, h1, h2⟩
theorem q_all {n a b : Nat} (hn : n ≤ 3) (h1 : a < b) (h2 : b < n) : ∃ i, i < (prs n).length ∧ qa n i = a ∧ qb n i = b := by
  obtain ⟨i, hi, e⟩ := prs_all hn h1 h2
  exact ⟨i, hi, by rw [qa, e]; simp, by rw [qb, e]; simp⟩
def sumI (nx ny : Nat) (m : List (List Int)) (i k j : Nat) : Int := sum4V ny m (qa nx i) (qb nx i) (qa ny k) (qb ny k) j
/-- what is done so far -/
structure GTo (nx ny : Nat) (m : List (List Int)) (I K J : Nat) (g : Int) : Prop where
  pos : 0 ≤ g ∧ g ≤ 4000
  all : ∀ i k j, i < (prs nx).length → k < (prs ny).length → j < 4 → (i < I ∨ (i = I ∧ (k < K ∨ (k = K ∧ j < J)))) → abV (sumI nx ny m i k j) ≤ g
  own : g = 0 ∨ ∃ a b c d k, a < b ∧ b < nx ∧ c < d ∧ d < ny ∧ k < 4 ∧ g = abV (sum4V ny m a b c d k)
theorem GTo.zero (nx ny : Nat) (m : List (List Int)) : GTo nx ny m 0 0 0 0 := ⟨by omega, fun i k j _ _ _ h => by omega, .inl rfl⟩
theorem GTo.nextJ {nx ny : Nat} {m : List (List Int)} {I K J : Nat} {g g' : Int} (h : GTo nx ny m I K J g) (hx : nx ≤ 3) (hy : ny ≤ 3) (hI : I < (prs nx).length) (hK : K < (prs ny).length) (hJ : J < 4) (hB : AgB m)
    (hg : (g' = abV (sumI nx ny m I K J) ∧ g ≤ g') ∨ (g' = g ∧ abV (sumI nx ny m I K J) ≤ g)) : GTo nx ny m I K (J + 1) g' := by
  have hb := abV_bd (sum4_bd hB ny (qa nx I) (qb nx I) (qa ny K) (qb ny K) J)
  have hs : abV (sumI nx ny m I K J) ≤ g' := by rcases hg with h | h <;> omega
  have hgg : g ≤ g' := by rcases hg with h | h <;> omega
  obtain ⟨_, _, a1, a2⟩ := q_at hx hI
  obtain ⟨_, _, a3, a4⟩ := q_at hy hK
  refine ⟨?_, fun i k j hi hk hj ho => ?_, ?_⟩
  · have := h.pos
    unfold sumI at hg
    rcases hg with h | h <;> omega
  · by_cases e : i = I ∧ k = K ∧ j = J
    · obtain ⟨rfl, rfl, rfl⟩ := e; exact hs
    · exact Int.le_trans (h.all i k j hi hk hj (by omega)) hgg
  · rcases hg with ⟨h1, _⟩ | ⟨h1, _⟩
    · exact .inr ⟨_, _, _, _, J, a1, a2, a3, a4, hJ, h1⟩
    · rw [h1]; exact h.own
theorem GTo.nextK {nx ny : Nat} {m : List (List Int)} {I K : Nat} {g : Int} (h : GTo nx ny m I K 4 g) : GTo nx ny m I (K + 1) 0 g :=
  ⟨h.pos, fun i k j hi hk hj ho => h.all i k j hi hk hj (by omega), h.own⟩
theorem GTo.nextI {nx ny : Nat} {m : List (List Int)} {I : Nat} {g : Int} (h : GTo nx ny m I (prs ny).length 0 g) : GTo nx ny m (I + 1) 0 0 g :=
  ⟨h.pos, fun i k j hi hk hj ho => h.all i k j hi hk hj (by omega), h.own⟩
theorem GTo.fin {nx ny : Nat} {m : List (List Int)} {g : Int} (hx : nx ≤ 3) (hy : ny ≤ 3) (h : GTo nx ny m (prs nx).length 0 0 g) : GSum nx ny m g :=
  ⟨h.pos.1, fun a b c d k h1 h2 h3 h4 h5 => by
    obtain ⟨i, hi, rfl, rfl⟩ := q_all hx h1 h2
    obtain ⟨j, hj, rfl, rfl⟩ := q_all hy h3 h4
    exact h.all i j k hi hj h5 (by omega), h.own⟩
end Go.Aw
namespace Go.Proofs.Ytkomndcehdneaaa.L
open Go.Aw
set_option maxRecDepth 100000
set_option maxHeartbeats 4000000

/-- the greatest sum, and something more -/
def gsP (nx ny : Nat) (m : List (List Int)) : AVal → List (Nat × ARow) → Prop := fun v h => h = [] ∧ ∃ (g p0 p1 q0 q1 k : Int) (t : Bool), GSum nx ny m g ∧ g ≤ 4000 ∧ v = .tu [.c (.int .i64 (g)), .ag [.c (.int .i64 (p0)), .c (.int .i64 (p1))], .ag [.c (.int .i64 (q0)), .c (.int .i64 (q1))], .c (.int .i64 (k)), .c (.bool t)]
theorem greatest_spec (nx ny : Nat) (z : Int) (m : List (List Int)) (hx : nx ≤ 3) (hy : ny ≤ 3) (hm : m.length = nx * ny) (h4 : ∀ r, r ∈ m → r.length = 4) (hB : AgB m) :
    FSpec Try.prog 241 [.ag [.c (.int .i64 (nx)), .c (.int .i64 (ny)), .c (.int .i64 (z)), .t (.rows m)]] (gsP nx ny m) := by
  have lx := prs_len hx
  have ly := prs_len hy
  refine fspec tyOk mx Try.func241 rfl (by kernel_rfl) rfl ?_
  conv => whnf
  refine ACall.use (pairs_spec nx (by omega)) ?_
  conv => whnf
  refine aloopI tyOk mx (fun i : Nat × Int × Int × Int × Int × Int × Int × Bool => (⟨67, [(1, .ptr 0 0), (2, .c (.int .i64 (0))), (3, .ptr 1 0), (4, .ptr 2 0), (5, .c (.int .i64 (0))), (6, .c (.bool false)), (7, .c (.int .i64 (i.2.1))), (8, .ptr 3 0), (9, .ptr 4 0), (10, .c (.int .i64 (i.2.2.2.2.2.2.1))), (11, .c (.bool i.2.2.2.2.2.2.2)), (22, .t (.recs 101 (prs nx))), (23, .c (.int .i64 ((prs nx).length))), (24, .c (.int .i64 (i.1)))], [(0, .cells 53 [.c (.int .i64 (nx)), .c (.int .i64 (ny)), .c (.int .i64 (z)), .t (.rows m)]), (1, .cells 158 [.c (.int .i64 (0)), .c (.int .i64 (0))]), (2, .cells 158 [.c (.int .i64 (0)), .c (.int .i64 (0))]), (3, .cells 158 [.c (.int .i64 (i.2.2.1)), .c (.int .i64 (i.2.2.2.1))]), (4, .cells 158 [.c (.int .i64 (i.2.2.2.2.1)), .c (.int .i64 (i.2.2.2.2.2.1))])], 5⟩ : St)) (fun i => i.1 ≤ (prs nx).length ∧ GTo nx ny m i.1 0 0 i.2.1 ∧ (i.2.2.2.2.2.2.2 = false → i.2.1 = 0)) (fun i => (prs nx).length - i.1) (0, 0, 0, 0, 0, 0, 0, false) ⟨Nat.zero_le _, GTo.zero nx ny m, fun _ => rfl⟩ none (by refine ⟨rfl, rfl, ?_, ?_⟩ <;> ((repeat' (first | exact trivial | exact rfl | refine And.intro ?_ ?_)) <;> (try ((conv => whnf); first | refine vint ?_ | refine vboo ?_ | refine rint ?_ | refine rrow ?_ | skip)) <;> (try first | omega | (simp; done) | ((repeat rw [flts_closed _ (by assumption)]); exact vws_closed _ (by assumption))))) (fun i hi => ?_)
  obtain ⟨i, g, p0, p1, q0, q1, kk, t⟩ := i
  obtain ⟨i1, i2, i3⟩ := hi
  simp only at i1 i2 i3
  dsimp only
  refine ⟨fun h => ?_, fun h => ?_⟩
  · have h := ltT h
    obtain ⟨ea, eb, x1, x2⟩ := q_at hx h
    conv => whnf
    refine ⟨i, rfl, h, ?_⟩
    conv => whnf
    refine ACall.use (pairs_spec ny (by omega)) ?_
    conv => whnf
    refine aloopI tyOk mx (fun j : Nat × Int × Int × Int × Int × Int × Int × Bool => (⟨67, [(1, .ptr 0 0), (2, .c (.int .i64 (0))), (3, .ptr 1 0), (4, .ptr 2 0), (5, .c (.int .i64 (0))), (6, .c (.bool false)), (7, .c (.int .i64 (j.2.1))), (8, .ptr 3 0), (9, .ptr 4 0), (10, .c (.int .i64 (j.2.2.2.2.2.2.1))), (11, .c (.bool j.2.2.2.2.2.2.2)), (13, .ptr 5 0), (22, .t (.recs 101 (prs nx))), (23, .c (.int .i64 ((prs nx).length))), (24, .c (.int .i64 (i))), (30, .t (.recs 101 (prs ny))), (31, .c (.int .i64 ((prs ny).length))), (32, .c (.int .i64 (j.1)))], [(0, .cells 53 [.c (.int .i64 (nx)), .c (.int .i64 (ny)), .c (.int .i64 (z)), .t (.rows m)]), (1, .cells 158 [.c (.int .i64 (0)), .c (.int .i64 (0))]), (2, .cells 158 [.c (.int .i64 (0)), .c (.int .i64 (0))]), (3, .cells 158 [.c (.int .i64 (j.2.2.1)), .c (.int .i64 (j.2.2.2.1))]), (4, .cells 158 [.c (.int .i64 (j.2.2.2.2.1)), .c (.int .i64 (j.2.2.2.2.2.1))]), (5, .cells 158 [.c (.int .i64 (qa nx i)), .c (.int .i64 (qb nx i))])], 6⟩ : St)) (fun j => j.1 ≤ (prs ny).length ∧ GTo nx ny m i j.1 0 j.2.1 ∧ (j.2.2.2.2.2.2.2 = false → j.2.1 = 0)) (fun j => (prs ny).length - j.1) (0, g, p0, p1, q0, q1, kk, t) ⟨Nat.zero_le _, i2, i3⟩ none (by refine ⟨rfl, rfl, ?_, ?_⟩ <;> ((repeat' (first | exact trivial | exact rfl | refine And.intro ?_ ?_)) <;> (try ((conv => whnf); first | refine vint ?_ | refine vboo ?_ | refine rint ?_ | refine rrow ?_ | skip)) <;> (try first | omega | (simp; done) | ((repeat rw [flts_closed _ (by assumption)]); exact vws_closed _ (by assumption))))) (fun j hj => ?_)
    obtain ⟨j, g, p0, p1, q0, q1, kk, t⟩ := j
    obtain ⟨j1, j2, j3⟩ := hj
    simp only at j1 j2 j3
    dsimp only
    refine ⟨fun h2 => ?_, fun h2 => ?_⟩
    · have h2 := ltT h2
      obtain ⟨ec, ed, y1, y2⟩ := q_at hy h2
      conv => whnf
      refine ⟨j, rfl, h2, ?_⟩
      conv => whnf
      refine aloopI tyOk mx (fun u : Nat × Int × Int × Int × Int × Int × Int × Bool => (⟨67, [(1, .ptr 0 0), (2, .c (.int .i64 (0))), (3, .ptr 1 0), (4, .ptr 2 0), (5, .c (.int .i64 (0))), (6, .c (.bool false)), (7, .c (.int .i64 (u.2.1))), (8, .ptr 3 0), (9, .ptr 4 0), (10, .c (.int .i64 (u.2.2.2.2.2.2.1))), (11, .c (.bool u.2.2.2.2.2.2.2)), (13, .ptr 5 0), (15, .ptr 6 0), (22, .t (.recs 101 (prs nx))), (23, .c (.int .i64 ((prs nx).length))), (24, .c (.int .i64 (i))), (30, .t (.recs 101 (prs ny))), (31, .c (.int .i64 ((prs ny).length))), (32, .c (.int .i64 (j))), (36, .c (.int .i64 (u.1)))], [(0, .cells 53 [.c (.int .i64 (nx)), .c (.int .i64 (ny)), .c (.int .i64 (z)), .t (.rows m)]), (1, .cells 158 [.c (.int .i64 (0)), .c (.int .i64 (0))]), (2, .cells 158 [.c (.int .i64 (0)), .c (.int .i64 (0))]), (3, .cells 158 [.c (.int .i64 (u.2.2.1)), .c (.int .i64 (u.2.2.2.1))]), (4, .cells 158 [.c (.int .i64 (u.2.2.2.2.1)), .c (.int .i64 (u.2.2.2.2.2.1))]), (5, .cells 158 [.c (.int .i64 (qa nx i)), .c (.int .i64 (qb nx i))]), (6, .cells 158 [.c (.int .i64 (qa ny j)), .c (.int .i64 (qb ny j))])], 7⟩ : St)) (fun u => u.1 ≤ 4 ∧ GTo nx ny m i j u.1 u.2.1 ∧ (u.2.2.2.2.2.2.2 = false → u.2.1 = 0)) (fun u => 4 - u.1) (0, g, p0, p1, q0, q1, kk, t) ⟨Nat.zero_le _, j2, j3⟩ none (by refine ⟨rfl, rfl, ?_, ?_⟩ <;> ((repeat' (first | exact trivial | exact rfl | refine And.intro ?_ ?_)) <;> (try ((conv => whnf); first | refine vint ?_ | refine vboo ?_ | refine rint ?_ | refine rrow ?_ | skip)) <;> (try first | omega | (simp; done) | ((repeat rw [flts_closed _ (by assumption)]); exact vws_closed _ (by assumption))))) (fun u hu => ?_)
      obtain ⟨u, g, p0, p1, q0, q1, kk, t⟩ := u
      obtain ⟨u1, u2, u3⟩ := hu
      simp only at u1 u2 u3
      dsimp only
      refine ⟨fun h3 => ?_, fun h3 => ?_⟩
      · have h3 : u < 4 := by have := of_decide_eq_true h3; omega
        have sb := sum4_bd hB ny (qa nx i) (qb nx i) (qa ny j) (qb ny j) u
        conv => whnf
        refine ACall.use (sum_spec nx ny (qa nx i) (qb nx i) (qa ny j) (qb ny j) u z m hx hy x1 x2 y1 y2 (by omega) hm h4 hB) ?_
        conv => whnf
        have ew : (if IntKind.i64.wrap (0 - sum4V ny m (qa nx i) (qb nx i) (qa ny j) (qb ny j) u) > sum4V ny m (qa nx i) (qb nx i) (qa ny j) (qb ny j) u then IntKind.i64.wrap (0 - sum4V ny m (qa nx i) (qb nx i) (qa ny j) (qb ny j) u) else sum4V ny m (qa nx i) (qb nx i) (qa ny j) (qb ny j) u) = abV (sumI nx ny m i j u) := by
          rw [w64 (by omega) (by omega)]
          unfold abV sumI
          split <;> split <;> omega
        rw [ew]
        dsimp only
        have eN : IntKind.i64.wrap ((u : Int) + 1) = ((u + 1 : Nat) : Int) := nat_wrap (by omega)
        refine ⟨fun ht => ?_, fun ht => ?_⟩
        · conv => whnf
          refine ⟨fun h5 => ?_, fun h5 => ?_⟩
          · have h5 : abV (sumI nx ny m i j u) > g := of_decide_eq_true h5
            refine ADraw.plan tyOk mx (.q 0 (.q 1 (.q 3 (.q 4 (.alt 2 (.last 5 (.last 6 (.q 7 (.q 8 (.done))))) (.last 5 (.last 2 (.last 6 (.q 7 (.q 8 (.done)))))))))) : Plan) (by kernel_rfl) ?_
            conv => whnf
            repeat' (first | (refine And.intro ?_ ?_ <;> (conv => whnf)))
            all_goals
              rw [eN]
              refine ⟨(u + 1, abV (sumI nx ny m i j u), (qa nx i : Int), (qb nx i : Int), (qa ny j : Int), (qb ny j : Int), (u : Int), true), none, ?_, ⟨by simp only; omega, u2.nextJ hx hy h h2 h3 hB (.inl ⟨rfl, by show g ≤ abV (sumI nx ny m i j u); omega⟩), fun h => by simp at h⟩, by simp only; omega⟩
              (refine ⟨rfl, rfl, ?_, ?_⟩ <;> ((repeat' (first | exact trivial | exact rfl | refine And.intro ?_ ?_)) <;> (try ((conv => whnf); first | refine vint ?_ | refine vboo ?_ | refine rint ?_ | refine rrow ?_ | skip)) <;> (try first | omega | (simp; done) | ((repeat rw [flts_closed _ (by assumption)]); exact vws_closed _ (by assumption)))))
          · have h5 : ¬ abV (sumI nx ny m i j u) > g := of_decide_eq_false h5
            conv => whnf
            rw [eN]
            exact ⟨(u + 1, g, p0, p1, q0, q1, kk, t), none, (by refine ⟨rfl, rfl, ?_, ?_⟩ <;> ((repeat' (first | exact trivial | exact rfl | refine And.intro ?_ ?_)) <;> (try ((conv => whnf); first | refine vint ?_ | refine vboo ?_ | refine rint ?_ | refine rrow ?_ | skip)) <;> (try first | omega | (simp; done) | ((repeat rw [flts_closed _ (by assumption)]); exact vws_closed _ (by assumption))))), ⟨by simp only; omega, u2.nextJ hx hy h h2 h3 hB (.inr ⟨rfl, by show abV (sumI nx ny m i j u) ≤ g; omega⟩), u3⟩, by simp only; omega⟩
        · have hg0 : g = 0 := u3 (by simpa using ht)
          have hab := abV_bd sb
          have hab : 0 ≤ abV (sumI nx ny m i j u) := hab.1
          clear ew
          (repeat (conv => whnf); (first | refine ⟨fun h => absurd h (by decide), fun _ => ?_⟩ | refine ⟨fun _ => ?_, fun h => absurd h (by decide)⟩)); conv => whnf
          refine ADraw.plan tyOk mx (.q 0 (.q 1 (.q 3 (.q 4 (.alt 2 (.last 5 (.last 6 (.q 7 (.q 8 (.done))))) (.last 5 (.last 2 (.last 6 (.q 7 (.q 8 (.done)))))))))) : Plan) (by kernel_rfl) ?_
          conv => whnf
          repeat' (first | (refine And.intro ?_ ?_ <;> (conv => whnf)))
          all_goals
            rw [eN]
            refine ⟨(u + 1, abV (sumI nx ny m i j u), (qa nx i : Int), (qb nx i : Int), (qa ny j : Int), (qb ny j : Int), (u : Int), true), none, ?_, ⟨by simp only; omega, u2.nextJ hx hy h h2 h3 hB (.inl ⟨rfl, by show g ≤ abV (sumI nx ny m i j u); omega⟩), fun h => by simp at h⟩, by simp only; omega⟩
            (refine ⟨rfl, rfl, ?_, ?_⟩ <;> ((repeat' (first | exact trivial | exact rfl | refine And.intro ?_ ?_)) <;> (try ((conv => whnf); first | refine vint ?_ | refine vboo ?_ | refine rint ?_ | refine rrow ?_ | skip)) <;> (try first | omega | (simp; done) | ((repeat rw [flts_closed _ (by assumption)]); exact vws_closed _ (by assumption)))))
      · have h3 : ¬ u < 4 := by have := of_decide_eq_false h3; omega
        obtain rfl : u = 4 := by omega
        conv => whnf
        rw [nat_wrap (by omega)]
        exact ⟨(j + 1, g, p0, p1, q0, q1, kk, t), none, (by refine ⟨rfl, rfl, ?_, ?_⟩ <;> ((repeat' (first | exact trivial | exact rfl | refine And.intro ?_ ?_)) <;> (try ((conv => whnf); first | refine vint ?_ | refine vboo ?_ | refine rint ?_ | refine rrow ?_ | skip)) <;> (try first | omega | (simp; done) | ((repeat rw [flts_closed _ (by assumption)]); exact vws_closed _ (by assumption))))), ⟨by simp only; omega, u2.nextK, u3⟩, by simp only; omega⟩
    · have h2 := ltF h2
      obtain rfl : j = (prs ny).length := by omega
      conv => whnf
      rw [nat_wrap (by omega)]
      exact ⟨(i + 1, g, p0, p1, q0, q1, kk, t), none, (by refine ⟨rfl, rfl, ?_, ?_⟩ <;> ((repeat' (first | exact trivial | exact rfl | refine And.intro ?_ ?_)) <;> (try ((conv => whnf); first | refine vint ?_ | refine vboo ?_ | refine rint ?_ | refine rrow ?_ | skip)) <;> (try first | omega | (simp; done) | ((repeat rw [flts_closed _ (by assumption)]); exact vws_closed _ (by assumption))))), ⟨by simp only; omega, j2.nextI, j3⟩, by simp only; omega⟩
  · have h := ltF h
    obtain rfl : i = (prs nx).length := by omega
    have hf := i2.fin hx hy
    have hb := i2.pos
    refine ADraw.plan tyOk mx (.q 0 (.q 1 (.q 3 (.q 4 (.q 5 (.alt 2 (.last 6 (.last 7 (.q 8 (.q 9 (.done))))) (.last 6 (.last 2 (.last 7 (.q 8 (.q 9 (.done))))))))))) : Plan) (by kernel_rfl) ?_
    conv => whnf
    repeat' (first
      | (exact ⟨rfl, g, p0, p1, q0, q1, kk, t, hf, hb.2, rfl⟩)
      | (refine And.intro ?_ ?_ <;> (conv => whnf)))
end Go.Proofs.Ytkomndcehdneaaa.L
/- What a box becomes: players swapped, questions in other orders, answers flipped; its triple worth. Program. -/
namespace Go.Aw
def enV (ny : Nat) (m : List (List Int)) (x y a c : Nat) : Int := (m.getD (x * ny + y) []).getD (2 * a + c) 0
def swG (nx ny : Nat) (m : List (List Int)) : List (List Int) := boxRows (fun x y a c => enV ny m y x c a) ny nx
def agG (ny : Nat) (m : List (List Int)) (f s : List Int) : List (List Int) := boxRows (fun x y a c => enV ny m (f.getD x 0).toNat (s.getD y 0).toNat a c) f.length s.length
/-- an answer, flipped or not -/
def xb (a : Nat) (f : Int) : Nat := if f = 0 then a else 1 - a
def flG (nx ny : Nat) (m : List (List Int)) (fl : List Int) : List (List Int) := boxRows (fun x y a c => enV ny m x y (xb a (fl.getD x 0)) (xb c (fl.getD (nx + y) 0))) nx ny
theorem xb_bits {a : Nat} {f : Int} (ha : a < 2) (hf : 0 ≤ f ∧ f ≤ 1) : bits .xor .i64 (a : Int) f = (xb a f : Int) := by
  have h1 : a = 0 ∨ a = 1 := by omega
  have h2 : f = 0 ∨ f = 1 := by omega
  rcases h1 with rfl | rfl <;> rcases h2 with rfl | rfl <;> rfl
theorem xb_lt {a : Nat} {f : Int} (ha : a < 2) : xb a f < 2 := by unfold xb; split <;> omega
/-- numbers that are not too great -/
def Bd (m : List (List Int)) : Prop := ∀ p q, 0 ≤ (m.getD p []).getD q 0 ∧ (m.getD p []).getD q 0 ≤ 1000
theorem Bd.of {m : List (List Int)} (h : ∀ r, r ∈ m → ∀ v, v ∈ r → 0 ≤ v ∧ v ≤ 1000) : Bd m := fun p q => by
  by_cases hp : p < m.length
  · by_cases hq : q < (m.getD p []).length
    · exact h _ (Go.Proofs.Ytkomndcehdneaaa.getD_mem hp) _ (Go.Proofs.Ytkomndcehdneaaa.getD_mem hq)
    · have e : (m.getD p []).getD q 0 = 0 := by rw [List.getD_eq_getElem?_getD, List.getElem?_eq_none (by omega)]; rfl
      rw [e]; omega
  · have e : m.getD p [] = [] := by rw [List.getD_eq_getElem?_getD, List.getElem?_eq_none (by omega)]; rfl
    rw [e]; simp
theorem Bd.rows {num : Nat → Nat → Nat → Nat → Int} {nx ny : Nat} (h : ∀ x y a c, 0 ≤ num x y a c ∧ num x y a c ≤ 1000) : Bd (boxRows num nx ny) := Bd.of fun r hr v hv => by
  rw [boxRows, List.mem_flatMap] at hr
  obtain ⟨i, _, hr⟩ := hr
  obtain ⟨k, _, rfl⟩ := List.mem_map.1 hr
  obtain ⟨p, _, rfl⟩ := List.mem_map.1 hv
  exact h _ _ _ _
theorem Bd.en {m : List (List Int)} (h : Bd m) (ny x y a c : Nat) : 0 ≤ enV ny m x y a c ∧ enV ny m x y a c ≤ 1000 := h _ _
/-- a box of three questions each: nine rows of four numbers that are not too great -/
structure R9 (m : List (List Int)) : Prop where
  len : m.length = 9
  four : ∀ r, r ∈ m → r.length = 4
  bd : Bd m
theorem boxRows_four {num : Nat → Nat → Nat → Nat → Int} {nx ny : Nat} : ∀ r, r ∈ boxRows num nx ny → r.length = 4 := fun r hr => by
  rw [boxRows, List.mem_flatMap] at hr
  obtain ⟨i, _, hr⟩ := hr
  obtain ⟨k, _, rfl⟩ := List.mem_map.1 hr
  simp [boxRow]
theorem R9.sw {m : List (List Int)} (h : R9 m) : R9 (swG 3 3 m) := ⟨boxRows_len _ 3 3, boxRows_four, Bd.rows fun _ _ _ _ => h.bd.en _ _ _ _ _⟩
theorem R9.ag {m : List (List Int)} (h : R9 m) {f s : List Int} (hf : f.length = 3) (hs : s.length = 3) : R9 (agG 3 m f s) := ⟨by rw [agG, boxRows_len, hf, hs], boxRows_four, Bd.rows fun _ _ _ _ => h.bd.en _ _ _ _ _⟩
theorem R9.fl {m : List (List Int)} (h : R9 m) (fl : List Int) : R9 (flG 3 3 m fl) := ⟨boxRows_len _ 3 3, boxRows_four, Bd.rows fun _ _ _ _ => h.bd.en _ _ _ _ _⟩
def n3 (m : List (List Int)) (p : Nat) : Int := (m.getD p []).getD 3 0
def o0 (m : List (List Int)) (p : Nat) : Int := (m.getD p []).getD 2 0 + (m.getD p []).getD 3 0
def o1 (m : List (List Int)) (p : Nat) : Int := (m.getD p []).getD 1 0 + (m.getD p []).getD 3 0
/-- the triple worth -/
def tv (m : List (List Int)) : Int := n3 m 0 + n3 m 1 + n3 m 2 + n3 m 3 + n3 m 4 - n3 m 5 + n3 m 6 - n3 m 7 - o0 m 0 - 2 * o1 m 0 - o1 m 1
theorem tv_bd {m : List (List Int)} (h : Bd m) : -20000 ≤ tv m ∧ tv m ≤ 20000 := by
  have a0 := h 0 3; have a1 := h 1 3; have a2 := h 2 3; have a3 := h 3 3; have a4 := h 4 3; have a5 := h 5 3; have a6 := h 6 3; have a7 := h 7 3
  have b0 := h 0 2; have b1 := h 0 1; have b2 := h 1 1
  unfold tv n3 o0 o1; omega
end Go.Aw
namespace Go.Proofs.Ytkomndcehdneaaa.L
open Go.Aw
set_option maxRecDepth 100000
set_option maxHeartbeats 4000000

theorem sw1_spec (nx ny : Nat) (hx : nx ≤ 3) (hy : ny ≤ 3) (z : Int) (m : List (List Int)) (hm : m.length = nx * ny) (h4 : ∀ r, r ∈ m → r.length = 4) (i k a b : Nat) (hi : i < ny) (hk : k < nx) (ha : a < 2) (hb : b < 2) :
    FSpec Try.prog 268 [.c (.int .i64 (i)), .c (.int .i64 (k)), .c (.int .i64 (a)), .c (.int .i64 (b)), .rp [.c (.int .i64 (nx)), .c (.int .i64 (ny)), .c (.int .i64 (z)), .t (.rows m)] 0] (ex (.c (.int .i64 (enV ny m k i b a))) []) := by
  have hix := ix_lt hk hi
  have hn : nx * ny ≤ 3 * 3 := Nat.mul_le_mul hx hy
  have hr := h4 _ (getD_mem (d := []) (show k * ny + i < m.length by omega))
  refine fspec tyOk mx Try.func268 rfl (by kernel_rfl) rfl ?_
  conv => whnf
  refine ACall.use (at_spec nx ny k i b a z m (by omega) (by omega) (by omega) (by omega)) ?_
  conv => whnf
  exact ⟨rfl, rfl⟩
theorem swapped_spec (nx ny : Nat) (hx : nx ≤ 3) (hy : ny ≤ 3) (z : Int) (m : List (List Int)) (hm : m.length = nx * ny) (h4 : ∀ r, r ∈ m → r.length = 4) :
    FSpec Try.prog 263 [.ag [.c (.int .i64 (nx)), .c (.int .i64 (ny)), .c (.int .i64 (z)), .t (.rows m)]] (ex (.ag [.c (.int .i64 (ny)), .c (.int .i64 (nx)), .c (.int .i64 (z)), .own 0]) [(0, .rows 25 3 true (swG nx ny m))]) := by
  refine fspec tyOk mx Try.func263 rfl (by kernel_rfl) rfl ?_
  conv => whnf
  refine ACall.use (newBox_spec ny nx z _ [.rp [.c (.int .i64 (nx)), .c (.int .i64 (ny)), .c (.int .i64 (z)), .t (.rows m)] 0] (fun x y a c => enV ny m y x c a) (by omega) (by omega) (fun _ _ => rfl) rfl (fun i k a b hi hk ha hb => sw1_spec nx ny hx hy z m hm h4 i k a b hi hk ha hb)) ?_
  conv => whnf
  exact ⟨rfl, rfl⟩
theorem ag1_spec (nx ny : Nat) (hx : nx ≤ 3) (hy : ny ≤ 3) (z : Int) (m : List (List Int)) (hm : m.length = nx * ny) (h4 : ∀ r, r ∈ m → r.length = 4) (f s : List Int) (hf : ∀ v, v ∈ f → 0 ≤ v ∧ v < nx) (hs : ∀ v, v ∈ s → 0 ≤ v ∧ v < ny)
    (i k a b : Nat) (hi : i < f.length) (hk : k < s.length) (ha : a < 2) (hb : b < 2) :
    FSpec Try.prog 269 [.c (.int .i64 (i)), .c (.int .i64 (k)), .c (.int .i64 (a)), .c (.int .i64 (b)), .rp [.c (.int .i64 (nx)), .c (.int .i64 (ny)), .c (.int .i64 (z)), .t (.rows m)] 0, .rp [.t (.ints .i64 f)] 0, .rp [.t (.ints .i64 s)] 0] (ex (.c (.int .i64 (enV ny m (f.getD i 0).toNat (s.getD k 0).toNat a b))) []) := by
  have f1 := hf _ (getD_mem (d := 0) hi)
  have s1 := hs _ (getD_mem (d := 0) hk)
  obtain ⟨p, ep⟩ : ∃ p : Nat, f.getD i 0 = p := ⟨(f.getD i 0).toNat, by omega⟩
  obtain ⟨q, eq⟩ : ∃ q : Nat, s.getD k 0 = q := ⟨(s.getD k 0).toNat, by omega⟩
  rw [ep] at f1
  rw [eq] at s1
  have hix := ix_lt (show p < nx by omega) (show q < ny by omega)
  have hn : nx * ny ≤ 3 * 3 := Nat.mul_le_mul hx hy
  have hr := h4 _ (getD_mem (d := []) (show p * ny + q < m.length by omega))
  refine fspec tyOk mx Try.func269 rfl (by kernel_rfl) rfl ?_
  conv => whnf
  refine ADraw.plan tyOk mx (.q 0 (.q 1 (.q 2 (.q 3 (.q 4 (.q 5 (.q 6 (.q 7 (.q 8 (.q 9 (.q 10 (.last 11 (.q 12 (.done))))))))))))) : Plan) (by kernel_rfl) ?_
  conv => whnf
  repeat' (first
    | (refine ⟨i, rfl, hi, ?_⟩; conv => whnf)
    | (refine ⟨k, rfl, hk, ?_⟩; conv => whnf)
    | (rw [ep, eq]; refine ACall.useR (at_spec nx ny p q a b z m (by omega) (by omega) (by omega) (by omega)) ?_; conv => whnf)
    | (refine And.intro ?_ ?_ <;> (conv => whnf)))
  all_goals rfl
theorem again_spec (nx ny : Nat) (hx : nx ≤ 3) (hy : ny ≤ 3) (z : Int) (m : List (List Int)) (hm : m.length = nx * ny) (h4 : ∀ r, r ∈ m → r.length = 4) (f s : List Int) (lf : f.length ≤ 3) (ls : s.length ≤ 3) (hf : ∀ v, v ∈ f → 0 ≤ v ∧ v < nx) (hs : ∀ v, v ∈ s → 0 ≤ v ∧ v < ny) :
    FSpec Try.prog 264 [.ag [.c (.int .i64 (nx)), .c (.int .i64 (ny)), .c (.int .i64 (z)), .t (.rows m)], .t (.ints .i64 f), .t (.ints .i64 s)] (ex (.ag [.c (.int .i64 (f.length)), .c (.int .i64 (s.length)), .c (.int .i64 (z)), .own 0]) [(0, .rows 25 3 true (agG ny m f s))]) := by
  refine fspec tyOk mx Try.func264 rfl (by kernel_rfl) rfl ?_
  conv => whnf
  refine ACall.use (newBox_spec f.length s.length z _ [.rp [.c (.int .i64 (nx)), .c (.int .i64 (ny)), .c (.int .i64 (z)), .t (.rows m)] 0, .rp [.t (.ints .i64 f)] 0, .rp [.t (.ints .i64 s)] 0] (fun x y a c => enV ny m (f.getD x 0).toNat (s.getD y 0).toNat a c) (by omega) (by omega) (fun _ _ => rfl) rfl (fun i k a b hi hk ha hb => ag1_spec nx ny hx hy z m hm h4 f s hf hs i k a b hi hk ha hb)) ?_
  conv => whnf
  exact ⟨rfl, rfl⟩
theorem fl1_spec (nx ny : Nat) (hx : nx ≤ 3) (hy : ny ≤ 3) (z : Int) (m : List (List Int)) (hm : m.length = nx * ny) (h4 : ∀ r, r ∈ m → r.length = 4) (fl : List Int) (lf : fl.length = nx + ny) (hf : ∀ v, v ∈ fl → 0 ≤ v ∧ v ≤ 1)
    (i k a b : Nat) (hi : i < nx) (hk : k < ny) (ha : a < 2) (hb : b < 2) :
    FSpec Try.prog 253 [.c (.int .i64 (i)), .c (.int .i64 (k)), .c (.int .i64 (a)), .c (.int .i64 (b)), .rp [.c (.int .i64 (nx)), .c (.int .i64 (ny)), .c (.int .i64 (z)), .t (.rows m)] 0, .rp [.t (.ints .i64 fl)] 0] (ex (.c (.int .i64 (enV ny m i k (xb a (fl.getD i 0)) (xb b (fl.getD (nx + k) 0))))) []) := by
  have f1 := hf _ (getD_mem (d := 0) (show i < fl.length by omega))
  have f2 := hf _ (getD_mem (d := 0) (show nx + k < fl.length by omega))
  have e1 := xb_bits ha f1
  have e2 := xb_bits hb f2
  have l1 := xb_lt (f := fl.getD i 0) ha
  have l2 := xb_lt (f := fl.getD (nx + k) 0) hb
  have eN : IntKind.i64.wrap ((nx : Int) + (k : Int)) = ((nx + k : Nat) : Int) := by rw [w64 (by omega) (by omega)]; omega
  have hix := ix_lt hi hk
  have hn : nx * ny ≤ 3 * 3 := Nat.mul_le_mul hx hy
  have hr := h4 _ (getD_mem (d := []) (show i * ny + k < m.length by omega))
  refine fspec tyOk mx Try.func253 rfl (by kernel_rfl) rfl ?_
  conv => whnf
  refine ADraw.plan tyOk mx (.q 0 (.q 1 (.q 2 (.q 3 (.q 4 (.q 5 (.q 6 (.q 7 (.q 8 (.q 9 (.q 10 (.q 11 (.q 12 (.q 13 (.q 14 (.q 15 (.q 16 (.q 17 (.last 18 (.q 19 (.done)))))))))))))))))))) : Plan) (by kernel_rfl) ?_
  conv => whnf
  repeat' (first
    | (refine ⟨i, rfl, by omega, ?_⟩; conv => whnf)
    | (refine ⟨nx + k, eN, by omega, ?_⟩; conv => whnf)
    | (rw [e1, e2]; refine ACall.useR (at_spec nx ny i k _ _ z m (by omega) (by omega) (by omega) (by omega)) ?_; conv => whnf)
    | (refine And.intro ?_ ?_ <;> (conv => whnf)))
  all_goals rfl
theorem flipped_spec (nx ny : Nat) (hx : nx ≤ 3) (hy : ny ≤ 3) (z : Int) (m : List (List Int)) (hm : m.length = nx * ny) (h4 : ∀ r, r ∈ m → r.length = 4) (fl : List Int) (lf : fl.length = nx + ny) (hf : ∀ v, v ∈ fl → 0 ≤ v ∧ v ≤ 1) :
    FSpec Try.prog 222 [.ag [.c (.int .i64 (nx)), .c (.int .i64 (ny)), .c (.int .i64 (z)), .t (.rows m)], .t (.ints .i64 fl)] (ex (.ag [.c (.int .i64 (nx)), .c (.int .i64 (ny)), .c (.int .i64 (z)), .own 0]) [(0, .rows 25 3 true (flG nx ny m fl))]) := by
  refine fspec tyOk mx Try.func222 rfl (by kernel_rfl) rfl ?_
  conv => whnf
  refine ACall.use (newBox_spec nx ny z _ [.rp [.c (.int .i64 (nx)), .c (.int .i64 (ny)), .c (.int .i64 (z)), .t (.rows m)] 0, .rp [.t (.ints .i64 fl)] 0] (fun x y a c => enV ny m x y (xb a (fl.getD x 0)) (xb c (fl.getD (nx + y) 0))) (by omega) (by omega) (fun _ _ => rfl) rfl (fun i k a b hi hk ha hb => fl1_spec nx ny hx hy z m hm h4 fl lf hf i k a b hi hk ha hb)) ?_
  conv => whnf
  exact ⟨rfl, rfl⟩
end Go.Proofs.Ytkomndcehdneaaa.L
/- The triple worth, the greatest one of all that a box becomes, and whether a box is local: program. -/
namespace Go.Aw
def ords : List (List Int) := [[0, 1, 2], [0, 2, 1], [1, 0, 2], [1, 2, 0], [2, 0, 1], [2, 1, 0]]
def stt (m : List (List Int)) : Nat → List (List Int)
  | 0 => m
  | _ => swG 3 3 m
/-- what a box becomes -/
def trm (m : List (List Int)) (s : Nat) (f g fl : List Int) : List (List Int) := flG 3 3 (agG 3 (stt m s) f g) fl
def OkFl (fl : List Int) : Prop := fl.length = 6 ∧ ∀ v, v ∈ fl → 0 ≤ v ∧ v ≤ 1
theorem R9.st {m : List (List Int)} (h : R9 m) (s : Nat) : R9 (stt m s) := by
  match s with
  | 0 => exact h
  | _ + 1 => exact h.sw
theorem ords_ok {f : List Int} (h : f ∈ ords) : f.length = 3 ∧ ∀ v, v ∈ f → 0 ≤ v ∧ v < 3 := by
  simp only [ords, List.mem_cons, List.not_mem_nil, or_false] at h
  rcases h with rfl | rfl | rfl | rfl | rfl | rfl <;> exact ⟨rfl, fun v hv => by simp only [List.mem_cons, List.not_mem_nil, or_false] at hv; omega⟩
theorem ords_at {i : Nat} (h : i < 6) : ords.getD i [] ∈ ords := by
  have : i = 0 ∨ i = 1 ∨ i = 2 ∨ i = 3 ∨ i = 4 ∨ i = 5 := by omega
  rcases this with rfl | rfl | rfl | rfl | rfl | rfl <;> simp [ords]
theorem ords_ix {f : List Int} (h : f ∈ ords) : ∃ i, i < 6 ∧ ords.getD i [] = f := by
  simp only [ords, List.mem_cons, List.not_mem_nil, or_false] at h
  rcases h with rfl | rfl | rfl | rfl | rfl | rfl
  · exact ⟨0, by omega, rfl⟩
  · exact ⟨1, by omega, rfl⟩
  · exact ⟨2, by omega, rfl⟩
  · exact ⟨3, by omega, rfl⟩
  · exact ⟨4, by omega, rfl⟩
  · exact ⟨5, by omega, rfl⟩
theorem fl_at {u : Nat} (h : u < 64) : OkFl ((playsL 6).getD u []) := playsL_row (by omega) (by rw [playsL_len]; omega)
theorem fl_ix {fl : List Int} (h : OkFl fl) : ∃ u, u < 64 ∧ (playsL 6).getD u [] = fl := by
  obtain ⟨hl, hv⟩ := h
  match fl, hl with
  | [a, b, c, d, e, f], _ =>
    have ha := hv a (by simp); have hb := hv b (by simp); have hc := hv c (by simp); have hd := hv d (by simp); have he := hv e (by simp); have hf := hv f (by simp)
    have key : ∀ a b c d e f : Nat, a < 2 → b < 2 → c < 2 → d < 2 → e < 2 → f < 2 → ∃ u, u < 64 ∧ (playsL 6).getD u [] = [(a : Int), b, c, d, e, f] := fun a b c d e f h1 h2 h3 h4 h5 h6 => ⟨32 * a + 16 * b + 8 * c + 4 * d + 2 * e + f, by omega, by
      have : ∀ u : Nat, u < 64 → (playsL 6).getD u [] = [((u / 32 % 2 : Nat) : Int), ((u / 16 % 2 : Nat) : Int), ((u / 8 % 2 : Nat) : Int), ((u / 4 % 2 : Nat) : Int), ((u / 2 % 2 : Nat) : Int), ((u % 2 : Nat) : Int)] := by decide +kernel
      rw [this _ (by omega)]
      congr 1
      · congr 1; omega
      congr 1
      · congr 1; omega
      congr 1
      · congr 1; omega
      congr 1
      · congr 1; omega
      congr 1
      · congr 1; omega
      congr 1
      congr 1; omega⟩
    obtain ⟨u, hu, e2⟩ := key a.toNat b.toNat c.toNat d.toNat e.toNat f.toNat (by omega) (by omega) (by omega) (by omega) (by omega) (by omega)
    refine ⟨u, hu, ?_⟩
    rw [e2, Int.toNat_of_nonneg ha.1, Int.toNat_of_nonneg hb.1, Int.toNat_of_nonneg hc.1, Int.toNat_of_nonneg hd.1, Int.toNat_of_nonneg he.1, Int.toNat_of_nonneg hf.1]
/-- the greatest triple worth -/
structure GTrip (m : List (List Int)) (g : Int) : Prop where
  all : ∀ s f h fl, s < 2 → f ∈ ords → h ∈ ords → OkFl fl → tv (trm m s f h fl) ≤ g
  own : ∃ s f h fl, s < 2 ∧ f ∈ ords ∧ h ∈ ords ∧ OkFl fl ∧ g = tv (trm m s f h fl)
theorem GTrip.one {m : List (List Int)} {g g' : Int} (h : GTrip m g) (h' : GTrip m g') : g = g' := by
  have key : ∀ {g g' : Int}, GTrip m g → GTrip m g' → g ≤ g' := fun {g g'} h h' => by
    obtain ⟨s, f, k, fl, h1, h2, h3, h4, e⟩ := h.own
    rw [e]; exact h'.all s f k fl h1 h2 h3 h4
  have := key h h'
  have := key h' h
  omega
/-- nothing done leaves the rows -/
theorem trm_id {m : List (List Int)} (h : R9 m) : trm m 0 [0, 1, 2] [0, 1, 2] [0, 0, 0, 0, 0, 0] = m := by
  obtain ⟨hl, h4, hb⟩ := h
  match m, hl with
  | [r0, r1, r2, r3, r4, r5, r6, r7, r8], _ =>
    have q := fun r hr => h4 r hr
    have f4 : ∀ r : List Int, r.length = 4 → ∃ a b c d, r = [a, b, c, d] := fun r hr => by
      match r, hr with
      | [a, b, c, d], _ => exact ⟨a, b, c, d, rfl⟩
    obtain ⟨_, _, _, _, rfl⟩ := f4 r0 (h4 _ (by simp))
    obtain ⟨_, _, _, _, rfl⟩ := f4 r1 (h4 _ (by simp))
    obtain ⟨_, _, _, _, rfl⟩ := f4 r2 (h4 _ (by simp))
    obtain ⟨_, _, _, _, rfl⟩ := f4 r3 (h4 _ (by simp))
    obtain ⟨_, _, _, _, rfl⟩ := f4 r4 (h4 _ (by simp))
    obtain ⟨_, _, _, _, rfl⟩ := f4 r5 (h4 _ (by simp))
    obtain ⟨_, _, _, _, rfl⟩ := f4 r6 (h4 _ (by simp))
    obtain ⟨_, _, _, _, rfl⟩ := f4 r7 (h4 _ (by simp))
    obtain ⟨_, _, _, _, rfl⟩ := f4 r8 (h4 _ (by simp))
    rfl
/-- what is done so far -/
def tvI (m : List (List Int)) (s i j u : Nat) : Int := tv (trm m s (ords.getD i []) (ords.getD j []) ((playsL 6).getD u []))
structure TTo (m : List (List Int)) (S I J U : Nat) (g : Int) : Prop where
  bd : -20000 ≤ g ∧ g ≤ 20000
  all : ∀ s i j u, s < 2 → i < 6 → j < 6 → u < 64 → (s < S ∨ (s = S ∧ (i < I ∨ (i = I ∧ (j < J ∨ (j = J ∧ u < U)))))) → tvI m s i j u ≤ g
  own : ∃ s f h fl, s < 2 ∧ f ∈ ords ∧ h ∈ ords ∧ OkFl fl ∧ g = tv (trm m s f h fl)
theorem trm_R9 {m : List (List Int)} (h : R9 m) (s : Nat) {f k : List Int} (hf : f ∈ ords) (hk : k ∈ ords) (fl : List Int) : R9 (trm m s f k fl) := ((h.st s).ag (ords_ok hf).1 (ords_ok hk).1).fl fl
theorem TTo.zero {m : List (List Int)} (h : R9 m) : TTo m 0 0 0 0 (tv m) :=
  ⟨tv_bd h.bd, fun s i j u _ _ _ _ h => by omega, ⟨0, [0, 1, 2], [0, 1, 2], [0, 0, 0, 0, 0, 0], by omega, by simp [ords], by simp [ords], ⟨rfl, fun v hv => by simp at hv; omega⟩, by rw [trm_id h]⟩⟩
theorem TTo.nextU {m : List (List Int)} {S I J U : Nat} {g g' : Int} (hm : R9 m) (h : TTo m S I J U g) (hS : S < 2) (hI : I < 6) (hJ : J < 6) (hU : U < 64) (hg : g' = if tvI m S I J U > g then tvI m S I J U else g) : TTo m S I J (U + 1) g' := by
  have hb := tv_bd (trm_R9 hm S (ords_at hI) (ords_at hJ) ((playsL 6).getD U [])).bd
  have hb' : -20000 ≤ tvI m S I J U ∧ tvI m S I J U ≤ 20000 := hb
  have h0 := h.bd
  have h1 : tvI m S I J U ≤ g' ∧ g ≤ g' := by rw [hg]; split <;> omega
  refine ⟨by rw [hg]; split <;> omega, fun s i j u a1 a2 a3 a4 ho => ?_, ?_⟩
  · by_cases e : s = S ∧ i = I ∧ j = J ∧ u = U
    · obtain ⟨rfl, rfl, rfl, rfl⟩ := e; exact h1.1
    · exact Int.le_trans (h.all s i j u a1 a2 a3 a4 (by omega)) h1.2
  · rw [hg]; split
    · exact ⟨S, _, _, _, hS, ords_at hI, ords_at hJ, fl_at hU, rfl⟩
    · exact h.own
theorem TTo.nextJ {m : List (List Int)} {S I J : Nat} {g : Int} (h : TTo m S I J 64 g) : TTo m S I (J + 1) 0 g := ⟨h.bd, fun s i j u a1 a2 a3 a4 ho => h.all s i j u a1 a2 a3 a4 (by omega), h.own⟩
theorem TTo.nextI {m : List (List Int)} {S I : Nat} {g : Int} (h : TTo m S I 6 0 g) : TTo m S (I + 1) 0 0 g := ⟨h.bd, fun s i j u a1 a2 a3 a4 ho => h.all s i j u a1 a2 a3 a4 (by omega), h.own⟩
theorem TTo.nextS {m : List (List Int)} {S : Nat} {g : Int} (h : TTo m S 6 0 0 g) : TTo m (S + 1) 0 0 0 g := ⟨h.bd, fun s i j u a1 a2 a3 a4 ho => h.all s i j u a1 a2 a3 a4 (by omega), h.own⟩
theorem TTo.fin {m : List (List Int)} {g : Int} (h : TTo m 2 0 0 0 g) : GTrip m g :=
  ⟨fun s f k fl a1 a2 a3 a4 => by
    obtain ⟨i, hi, rfl⟩ := ords_ix a2
    obtain ⟨j, hj, rfl⟩ := ords_ix a3
    obtain ⟨u, hu, rfl⟩ := fl_ix a4
    exact h.all s i j u a1 hi hj hu (by omega), h.own⟩
theorem wSm {n : Int} (h1 : -100000 ≤ n) (h2 : n ≤ 100000) : IntKind.i64.wrap n = n := w64 (by omega) (by omega)
end Go.Aw
namespace Go.Proofs.Ytkomndcehdneaaa.L
open Go.Aw
set_option maxRecDepth 100000
set_option maxHeartbeats 4000000

theorem tr1_spec (x y : Nat) (hx : x < 3) (hy : y < 3) (z : Int) (m : List (List Int)) (hm : m.length = 9) (h4 : ∀ r, r ∈ m → r.length = 4) :
    FSpec Try.prog 267 [.c (.int .i64 (x)), .c (.int .i64 (y)), .rp [.c (.int .i64 (3)), .c (.int .i64 (3)), .c (.int .i64 (z)), .t (.rows m)] 0] (ex (.c (.int .i64 (n3 m (x * 3 + y)))) []) := by
  have hr := h4 _ (getD_mem (d := []) (show x * 3 + y < m.length by omega))
  refine fspec tyOk mx Try.func267 rfl (by kernel_rfl) rfl ?_
  conv => whnf
  refine ACall.use (at_spec 3 3 x y 1 1 z m (by omega) (by omega) (by omega) (by omega)) ?_
  conv => whnf
  exact ⟨rfl, rfl⟩
theorem triple_spec (z : Int) (m : List (List Int)) (h9 : R9 m) : FSpec Try.prog 262 [.ag [.c (.int .i64 (3)), .c (.int .i64 (3)), .c (.int .i64 (z)), .t (.rows m)]] (ex (.c (.int .i64 (tv m))) []) := by
  obtain ⟨hm, h4, hb⟩ := h9
  have a0 := hb 0 3; have a1 := hb 1 3; have a2 := hb 2 3; have a3 := hb 3 3; have a4 := hb 4 3; have a5 := hb 5 3; have a6 := hb 6 3; have a7 := hb 7 3
  have b0 := hb 0 2; have b1 := hb 0 1; have b2 := hb 1 1
  have t1 := fun x y hx hy => tr1_spec x y hx hy z m hm h4
  have hc : (cntL 3 3 m).length = 6 := by simp [cntL]
  refine fspec tyOk mx Try.func262 rfl (by kernel_rfl) rfl ?_
  conv => whnf
  refine ACall.use (counts_spec 3 3 z m (by omega) (by omega) (by omega) (by omega) hm h4) ?_
  conv => whnf
  refine ADraw.std tyOk mx ⟨by kernel_rfl, ?_⟩
  conv => whnf
  refine QCall.use (t1 0 0 (by omega) (by omega)) ?_
  conv => whnf
  refine QCall.use (t1 0 1 (by omega) (by omega)) ?_
  conv => whnf
  refine QCall.use (t1 0 2 (by omega) (by omega)) ?_
  conv => whnf
  refine QCall.use (t1 1 0 (by omega) (by omega)) ?_
  conv => whnf
  refine QCall.use (t1 1 1 (by omega) (by omega)) ?_
  conv => whnf
  refine QCall.use (t1 1 2 (by omega) (by omega)) ?_
  conv => whnf
  refine QCall.use (t1 2 0 (by omega) (by omega)) ?_
  conv => whnf
  refine QCall.use (t1 2 1 (by omega) (by omega)) ?_
  conv => whnf
  refine ⟨0, rfl, by omega, ?_⟩
  conv => whnf
  refine ⟨3, rfl, by omega, ?_⟩
  conv => whnf
  refine ⟨4, rfl, by omega, ?_⟩
  conv => whnf
  have c0 : (cntL 3 3 m).getD 0 0 = IntKind.i64.wrap (o0 m 0) := rfl
  have c3 : (cntL 3 3 m).getD 3 0 = IntKind.i64.wrap (o1 m 0) := rfl
  have c4 : (cntL 3 3 m).getD 4 0 = IntKind.i64.wrap (o1 m 1) := rfl
  rw [c0, c3, c4]
  refine ⟨?_, rfl⟩
  congr 2
  unfold o0 o1 n3
  simp only [Nat.reduceMul, Nat.reduceAdd]
  simp (disch := omega) only [wSm]
  rfl
end Go.Proofs.Ytkomndcehdneaaa.L
/- The greatest triple worth; whether a box is local: program. -/
namespace Go.Aw
/-- local, as the program has it -/
structure Loc (nx ny : Nat) (z : Int) (m : List (List Int)) : Prop where
  quiet : quietF nx ny m = true
  sums : ∀ a b c d k, a < b → b < nx → c < d → d < ny → k < 4 → abV (sum4V ny m a b c d k) ≤ 2 * z
  trip : nx = 3 → ny = 3 → ∀ s f h fl, s < 2 → f ∈ ords → h ∈ ords → OkFl fl → tv (trm m s f h fl) ≤ 0
noncomputable def locB (nx ny : Nat) (z : Int) (m : List (List Int)) : Bool := @decide (Loc nx ny z m) (Classical.propDecidable _)
theorem locB_true {nx ny : Nat} {z : Int} {m : List (List Int)} : locB nx ny z m = true ↔ Loc nx ny z m := by simp [locB]
theorem locB_of {nx ny : Nat} {z : Int} {m : List (List Int)} {b : Bool} (h : b = true ↔ Loc nx ny z m) : locB nx ny z m = b := by
  by_cases hl : Loc nx ny z m
  · rw [locB_true.2 hl, h.2 hl]
  · cases hb : b with
    | true => exact absurd (h.1 hb) hl
    | false =>
      cases hc : locB nx ny z m with
      | true => exact absurd (locB_true.1 hc) hl
      | false => rfl
theorem GSum.le {nx ny : Nat} {m : List (List Int)} {g : Int} (h : GSum nx ny m g) {z : Int} (hz : 0 ≤ z) : g ≤ z ↔ ∀ a b c d k, a < b → b < nx → c < d → d < ny → k < 4 → abV (sum4V ny m a b c d k) ≤ z :=
  ⟨fun hg a b c d k h1 h2 h3 h4 h5 => Int.le_trans (h.all a b c d k h1 h2 h3 h4 h5) hg, fun hs => by
    rcases h.own with e | ⟨a, b, c, d, k, h1, h2, h3, h4, h5, e⟩
    · omega
    · rw [e]; exact hs a b c d k h1 h2 h3 h4 h5⟩
theorem GTrip.le {m : List (List Int)} {g : Int} (h : GTrip m g) {z : Int} : g ≤ z ↔ ∀ s f k fl, s < 2 → f ∈ ords → k ∈ ords → OkFl fl → tv (trm m s f k fl) ≤ z :=
  ⟨fun hg s f k fl h1 h2 h3 h4 => Int.le_trans (h.all s f k fl h1 h2 h3 h4) hg, fun hs => by
    obtain ⟨s, f, k, fl, h1, h2, h3, h4, e⟩ := h.own
    rw [e]; exact hs s f k fl h1 h2 h3 h4⟩
end Go.Aw
namespace Go.Proofs.Ytkomndcehdneaaa.L
open Go.Aw
set_option maxRecDepth 100000
set_option maxHeartbeats 16000000

def gtP (m : List (List Int)) : AVal → List (Nat × ARow) → Prop := fun v h => h = [] ∧ ∃ g : Int, GTrip m g ∧ v = .c (.int .i64 g)
theorem greatestTriple_spec (z : Int) (m : List (List Int)) (h9 : R9 m) : FSpec Try.prog 243 [.ag [.c (.int .i64 (3)), .c (.int .i64 (3)), .c (.int .i64 (z)), .t (.rows m)]] (gtP m) := by
  have hpl : (playsL 6).length = 64 := playsL_len 6
  refine fspec tyOk mx Try.func243 rfl (by kernel_rfl) rfl ?_
  conv => whnf
  refine ACall.use (triple_spec z m h9) ?_
  conv => whnf
  refine ADraw.plan tyOk mx (.q 0 (.q 1 (.q 4 (.last 2 (.q 3 (.done))))) : Plan) (by kernel_rfl) ?_
  conv => whnf
  repeat' (first
    | (refine ACall.useR (FSpec.toldL (swapped_spec 3 3 (by omega) (by omega) z m h9.len h9.four) (x' := .ag [.c (.int .i64 (3)), .c (.int .i64 (3)), .c (.int .i64 (z)), .t (.rows (swG 3 3 m))]) ⟨rfl, rfl, rfl, ⟨rfl, rfl⟩, trivial⟩) ?_; conv => whnf)
    | (refine And.intro ?_ ?_ <;> (conv => whnf)))
  all_goals
    refine aloopI tyOk mx (fun i : Nat × Int => (⟨63, [(1, .ptr 0 0), (2, .c (.int .i64 (0))), (3, .own 1), (4, .c (.int .i64 (i.2))), (26, .ag [.c (.int .i64 (3)), .c (.int .i64 (3)), .c (.int .i64 (z)), .t (.rows m), .c (.int .i64 (3)), .c (.int .i64 (3)), .c (.int .i64 (z)), .t (.rows (swG 3 3 m))]), (27, .c (.int .i64 (i.1)))], [(0, .cells 53 [.c (.int .i64 (3)), .c (.int .i64 (3)), .c (.int .i64 (z)), .t (.rows m)]), (1, .rows 25 3 true ords)], 2⟩ : St)) (fun i => i.1 ≤ 2 ∧ TTo m i.1 0 0 0 i.2) (fun i => 2 - i.1) (0, tv m) ⟨by simp only; omega, TTo.zero h9⟩ (some [(0, .row 0), (1, .row 7)]) (by (refine ⟨rfl, rfl, ?_, ?_⟩ <;> ((repeat' (first | exact trivial | exact rfl | refine And.intro ?_ ?_)) <;> (try ((conv => whnf); first | refine vint ?_ | refine vboo ?_ | refine rint ?_ | refine rrow ?_ | skip)) <;> (try first | omega | (simp; done) | ((repeat rw [flts_closed _ (by assumption)]); exact vws_closed _ (by assumption)))))) (fun i hi => ?_)
    obtain ⟨i, g⟩ := i
    obtain ⟨i1, i2⟩ := hi
    simp only at i1 i2
    dsimp only
    refine ⟨fun h => ?_, fun h => ?_⟩
    · have h : i < 2 := by have := of_decide_eq_true h; omega
      have hc : i = 0 ∨ i = 1 := by omega
      rcases hc with rfl | rfl
      · conv => whnf
        refine ⟨0, rfl, by omega, ?_⟩
        conv => whnf
        have r9 : R9 (stt m 0) := h9.st 0
        refine aloopI tyOk mx (fun j : Nat × Int => (⟨63, [(1, .ptr 0 0), (2, .c (.int .i64 (0))), (3, .own 1), (4, .c (.int .i64 (j.2))), (6, .ptr 2 0), (26, .ag [.c (.int .i64 (3)), .c (.int .i64 (3)), .c (.int .i64 (z)), .t (.rows m), .c (.int .i64 (3)), .c (.int .i64 (3)), .c (.int .i64 (z)), .t (.rows (swG 3 3 m))]), (27, .c (.int .i64 ((0 : Nat)))), (30, .own 1), (31, .c (.int .i64 (6))), (32, .c (.int .i64 (j.1)))], [(0, .cells 53 [.c (.int .i64 (3)), .c (.int .i64 (3)), .c (.int .i64 (z)), .t (.rows m)]), (1, .rows 25 3 true ords), (2, .cells 53 [.c (.int .i64 (3)), .c (.int .i64 (3)), .c (.int .i64 (z)), .t (.rows (stt m 0))])], 3⟩ : St)) (fun j => j.1 ≤ 6 ∧ TTo m 0 j.1 0 0 j.2) (fun j => 6 - j.1) (0, g) ⟨by simp only; omega, i2⟩ none (by refine ⟨rfl, rfl, ?_, ?_⟩ <;> ((repeat' (first | exact trivial | exact rfl | refine And.intro ?_ ?_)) <;> (try ((conv => whnf); first | refine vint ?_ | refine vboo ?_ | refine rint ?_ | refine rrow ?_ | skip)) <;> (try first | omega | (simp; done) | ((repeat rw [flts_closed _ (by assumption)]); exact vws_closed _ (by assumption))))) (fun j hj => ?_)
        obtain ⟨j, g⟩ := j
        obtain ⟨j1, j2⟩ := hj
        simp only at j1 j2
        dsimp only
        refine ⟨fun h2 => ?_, fun h2 => ?_⟩
        · have h2 : j < 6 := by have := of_decide_eq_true h2; omega
          have of1 := ords_ok (ords_at h2)
          conv => whnf
          refine ⟨j, rfl, h2, ?_⟩
          conv => whnf
          refine aloopI tyOk mx (fun k : Nat × Int => (⟨63, [(1, .ptr 0 0), (2, .c (.int .i64 (0))), (3, .own 1), (4, .c (.int .i64 (k.2))), (6, .ptr 2 0), (8, .sub 1 j), (26, .ag [.c (.int .i64 (3)), .c (.int .i64 (3)), .c (.int .i64 (z)), .t (.rows m), .c (.int .i64 (3)), .c (.int .i64 (3)), .c (.int .i64 (z)), .t (.rows (swG 3 3 m))]), (27, .c (.int .i64 ((0 : Nat)))), (30, .own 1), (31, .c (.int .i64 (6))), (32, .c (.int .i64 (j))), (36, .own 1), (37, .c (.int .i64 (6))), (38, .c (.int .i64 (k.1)))], [(0, .cells 53 [.c (.int .i64 (3)), .c (.int .i64 (3)), .c (.int .i64 (z)), .t (.rows m)]), (1, .rows 25 3 true ords), (2, .cells 53 [.c (.int .i64 (3)), .c (.int .i64 (3)), .c (.int .i64 (z)), .t (.rows (stt m 0))])], 3⟩ : St)) (fun k => k.1 ≤ 6 ∧ TTo m 0 j k.1 0 k.2) (fun k => 6 - k.1) (0, g) ⟨by simp only; omega, j2⟩ none (by refine ⟨rfl, rfl, ?_, ?_⟩ <;> ((repeat' (first | exact trivial | exact rfl | refine And.intro ?_ ?_)) <;> (try ((conv => whnf); first | refine vint ?_ | refine vboo ?_ | refine rint ?_ | refine rrow ?_ | skip)) <;> (try first | omega | (simp; done) | ((repeat rw [flts_closed _ (by assumption)]); exact vws_closed _ (by assumption))))) (fun k hk => ?_)
          obtain ⟨k, g⟩ := k
          obtain ⟨k1, k2⟩ := hk
          simp only at k1 k2
          dsimp only
          refine ⟨fun h3 => ?_, fun h3 => ?_⟩
          · have h3 : k < 6 := by have := of_decide_eq_true h3; omega
            have of2 := ords_ok (ords_at h3)
            have ra : R9 (agG 3 (stt m 0) (ords.getD j []) (ords.getD k [])) := r9.ag of1.1 of2.1
            conv => whnf
            refine ⟨k, rfl, h3, ?_⟩
            conv => whnf
            refine ACall.use (again_spec 3 3 (by omega) (by omega) z (stt m 0) r9.len r9.four (ords.getD j []) (ords.getD k []) (by omega) (by omega) of1.2 of2.2) ?_
            rw [of1.1, of2.1]
            conv => whnf
            refine ACall.use (FSpec.toldL (plays_spec 3 3 (by omega)) (x' := .t (.rows (playsL 6))) ⟨rfl, rfl⟩) ?_
            conv => whnf
            refine aloopI tyOk mx (fun u : Nat × Int => (⟨63, [(1, .ptr 0 0), (2, .c (.int .i64 (0))), (3, .own 1), (4, .c (.int .i64 (u.2))), (6, .ptr 2 0), (8, .sub 1 j), (11, .ptr 3 0), (26, .ag [.c (.int .i64 (3)), .c (.int .i64 (3)), .c (.int .i64 (z)), .t (.rows m), .c (.int .i64 (3)), .c (.int .i64 (3)), .c (.int .i64 (z)), .t (.rows (swG 3 3 m))]), (27, .c (.int .i64 ((0 : Nat)))), (30, .own 1), (31, .c (.int .i64 (6))), (32, .c (.int .i64 (j))), (36, .own 1), (37, .c (.int .i64 (6))), (38, .c (.int .i64 (k))), (46, .t (.rows (playsL 6))), (47, .c (.int .i64 ((playsL 6).length))), (48, .c (.int .i64 (u.1)))], [(0, .cells 53 [.c (.int .i64 (3)), .c (.int .i64 (3)), .c (.int .i64 (z)), .t (.rows m)]), (1, .rows 25 3 true ords), (2, .cells 53 [.c (.int .i64 (3)), .c (.int .i64 (3)), .c (.int .i64 (z)), .t (.rows (stt m 0))]), (3, .cells 53 [.c (.int .i64 (3)), .c (.int .i64 (3)), .c (.int .i64 (z)), .t (.rows (agG 3 (stt m 0) (ords.getD j []) (ords.getD k [])))])], 4⟩ : St)) (fun u => u.1 ≤ 64 ∧ TTo m 0 j k u.1 u.2) (fun u => 64 - u.1) (0, g) ⟨by simp only; omega, k2⟩ (some [(0, .row 0), (1, .row 1), (2, .row 2), (3, .row 4)]) (by (refine ⟨rfl, rfl, ?_, ?_⟩ <;> ((repeat' (first | exact trivial | exact rfl | refine And.intro ?_ ?_)) <;> (try ((conv => whnf); first | refine vint ?_ | refine vboo ?_ | refine rint ?_ | refine rrow ?_ | skip)) <;> (try first | omega | (simp; done) | ((repeat rw [flts_closed _ (by assumption)]); exact vws_closed _ (by assumption)))))) (fun u hu => ?_)
            obtain ⟨u, g⟩ := u
            obtain ⟨u1, u2⟩ := hu
            simp only at u1 u2
            dsimp only
            refine ⟨fun h4 => ?_, fun h4 => ?_⟩
            · have h4 : u < (playsL 6).length := ltT h4
              have h4' : u < 64 := by omega
              have hfl := fl_at h4'
              have rf : R9 (flG 3 3 (agG 3 (stt m 0) (ords.getD j []) (ords.getD k [])) ((playsL 6).getD u [])) := ra.fl _
              have gb := u2.bd
              conv => whnf
              refine ⟨u, rfl, h4, ?_⟩
              conv => whnf
              refine ACall.use (flipped_spec 3 3 (by omega) (by omega) z _ ra.len ra.four ((playsL 6).getD u []) hfl.1 hfl.2) ?_
              conv => whnf
              refine ACall.use (triple_spec z _ rf) ?_
              conv => whnf
              rw [nat_wrap (by omega)]
              refine ⟨(u + 1, if tvI m 0 j k u > g then tvI m 0 j k u else g), some [(0, .row 0), (1, .row 1), (2, .row 2), (3, .row 3)], ?_, ⟨by simp only; omega, u2.nextU h9 (by omega) h2 h3 h4' rfl⟩, by simp only; omega⟩
              (refine ⟨rfl, rfl, ?_, ?_⟩ <;> ((repeat' (first | exact trivial | exact rfl | refine And.intro ?_ ?_)) <;> (try ((conv => whnf); first | refine vint ?_ | refine vboo ?_ | refine rint ?_ | refine rrow ?_ | skip)) <;> (try first | omega | (simp; done) | ((repeat rw [flts_closed _ (by assumption)]); exact vws_closed _ (by assumption)))))
            · have h4 : ¬ u < (playsL 6).length := ltF h4
              obtain rfl : u = 64 := by omega
              conv => whnf
              rw [nat_wrap (by omega)]
              exact ⟨(k + 1, g), some [(0, .row 0), (1, .row 1), (2, .row 2)], (by (refine ⟨rfl, rfl, ?_, ?_⟩ <;> ((repeat' (first | exact trivial | exact rfl | refine And.intro ?_ ?_)) <;> (try ((conv => whnf); first | refine vint ?_ | refine vboo ?_ | refine rint ?_ | refine rrow ?_ | skip)) <;> (try first | omega | (simp; done) | ((repeat rw [flts_closed _ (by assumption)]); exact vws_closed _ (by assumption)))))), ⟨by simp only; omega, u2.nextJ⟩, by simp only; omega⟩
          · have h3 : ¬ k < 6 := by have := of_decide_eq_false h3; omega
            obtain rfl : k = 6 := by omega
            conv => whnf
            rw [nat_wrap (by omega)]
            exact ⟨(j + 1, g), none, (by refine ⟨rfl, rfl, ?_, ?_⟩ <;> ((repeat' (first | exact trivial | exact rfl | refine And.intro ?_ ?_)) <;> (try ((conv => whnf); first | refine vint ?_ | refine vboo ?_ | refine rint ?_ | refine rrow ?_ | skip)) <;> (try first | omega | (simp; done) | ((repeat rw [flts_closed _ (by assumption)]); exact vws_closed _ (by assumption))))), ⟨by simp only; omega, k2.nextI⟩, by simp only; omega⟩
        · have h2 : ¬ j < 6 := by have := of_decide_eq_false h2; omega
          obtain rfl : j = 6 := by omega
          conv => whnf
          exact ⟨(0 + 1, g), some [(0, .row 0), (1, .row 1)], (by (refine ⟨rfl, rfl, ?_, ?_⟩ <;> ((repeat' (first | exact trivial | exact rfl | refine And.intro ?_ ?_)) <;> (try ((conv => whnf); first | refine vint ?_ | refine vboo ?_ | refine rint ?_ | refine rrow ?_ | skip)) <;> (try first | omega | (simp; done) | ((repeat rw [flts_closed _ (by assumption)]); exact vws_closed _ (by assumption)))))), ⟨by simp only; omega, j2.nextS⟩, by simp only; omega⟩
      · conv => whnf
        refine ⟨1, rfl, by omega, ?_⟩
        conv => whnf
        have r9 : R9 (stt m 1) := h9.st 1
        refine aloopI tyOk mx (fun j : Nat × Int => (⟨63, [(1, .ptr 0 0), (2, .c (.int .i64 (0))), (3, .own 1), (4, .c (.int .i64 (j.2))), (6, .ptr 2 0), (26, .ag [.c (.int .i64 (3)), .c (.int .i64 (3)), .c (.int .i64 (z)), .t (.rows m), .c (.int .i64 (3)), .c (.int .i64 (3)), .c (.int .i64 (z)), .t (.rows (swG 3 3 m))]), (27, .c (.int .i64 ((1 : Nat)))), (30, .own 1), (31, .c (.int .i64 (6))), (32, .c (.int .i64 (j.1)))], [(0, .cells 53 [.c (.int .i64 (3)), .c (.int .i64 (3)), .c (.int .i64 (z)), .t (.rows m)]), (1, .rows 25 3 true ords), (2, .cells 53 [.c (.int .i64 (3)), .c (.int .i64 (3)), .c (.int .i64 (z)), .t (.rows (stt m 1))])], 3⟩ : St)) (fun j => j.1 ≤ 6 ∧ TTo m 1 j.1 0 0 j.2) (fun j => 6 - j.1) (0, g) ⟨by simp only; omega, i2⟩ none (by refine ⟨rfl, rfl, ?_, ?_⟩ <;> ((repeat' (first | exact trivial | exact rfl | refine And.intro ?_ ?_)) <;> (try ((conv => whnf); first | refine vint ?_ | refine vboo ?_ | refine rint ?_ | refine rrow ?_ | skip)) <;> (try first | omega | (simp; done) | ((repeat rw [flts_closed _ (by assumption)]); exact vws_closed _ (by assumption))))) (fun j hj => ?_)
        obtain ⟨j, g⟩ := j
        obtain ⟨j1, j2⟩ := hj
        simp only at j1 j2
        dsimp only
        refine ⟨fun h2 => ?_, fun h2 => ?_⟩
        · have h2 : j < 6 := by have := of_decide_eq_true h2; omega
          have of1 := ords_ok (ords_at h2)
          conv => whnf
          refine ⟨j, rfl, h2, ?_⟩
          conv => whnf
          refine aloopI tyOk mx (fun k : Nat × Int => (⟨63, [(1, .ptr 0 0), (2, .c (.int .i64 (0))), (3, .own 1), (4, .c (.int .i64 (k.2))), (6, .ptr 2 0), (8, .sub 1 j), (26, .ag [.c (.int .i64 (3)), .c (.int .i64 (3)), .c (.int .i64 (z)), .t (.rows m), .c (.int .i64 (3)), .c (.int .i64 (3)), .c (.int .i64 (z)), .t (.rows (swG 3 3 m))]), (27, .c (.int .i64 ((1 : Nat)))), (30, .own 1), (31, .c (.int .i64 (6))), (32, .c (.int .i64 (j))), (36, .own 1), (37, .c (.int .i64 (6))), (38, .c (.int .i64 (k.1)))], [(0, .cells 53 [.c (.int .i64 (3)), .c (.int .i64 (3)), .c (.int .i64 (z)), .t (.rows m)]), (1, .rows 25 3 true ords), (2, .cells 53 [.c (.int .i64 (3)), .c (.int .i64 (3)), .c (.int .i64 (z)), .t (.rows (stt m 1))])], 3⟩ : St)) (fun k => k.1 ≤ 6 ∧ TTo m 1 j k.1 0 k.2) (fun k => 6 - k.1) (0, g) ⟨by simp only; omega, j2⟩ none (by refine ⟨rfl, rfl, ?_, ?_⟩ <;> ((repeat' (first | exact trivial | exact rfl | refine And.intro ?_ ?_)) <;> (try ((conv => whnf); first | refine vint ?_ | refine vboo ?_ | refine rint ?_ | refine rrow ?_ | skip)) <;> (try first | omega | (simp; done) | ((repeat rw [flts_closed _ (by assumption)]); exact vws_closed _ (by assumption))))) (fun k hk => ?_)
          obtain ⟨k, g⟩ := k
          obtain ⟨k1, k2⟩ := hk
          simp only at k1 k2
          dsimp only
          refine ⟨fun h3 => ?_, fun h3 => ?_⟩
          · have h3 : k < 6 := by have := of_decide_eq_true h3; omega
            have of2 := ords_ok (ords_at h3)
            have ra : R9 (agG 3 (stt m 1) (ords.getD j []) (ords.getD k [])) := r9.ag of1.1 of2.1
            conv => whnf
            refine ⟨k, rfl, h3, ?_⟩
            conv => whnf
            refine ACall.use (again_spec 3 3 (by omega) (by omega) z (stt m 1) r9.len r9.four (ords.getD j []) (ords.getD k []) (by omega) (by omega) of1.2 of2.2) ?_
            rw [of1.1, of2.1]
            conv => whnf
            refine ACall.use (FSpec.toldL (plays_spec 3 3 (by omega)) (x' := .t (.rows (playsL 6))) ⟨rfl, rfl⟩) ?_
            conv => whnf
            refine aloopI tyOk mx (fun u : Nat × Int => (⟨63, [(1, .ptr 0 0), (2, .c (.int .i64 (0))), (3, .own 1), (4, .c (.int .i64 (u.2))), (6, .ptr 2 0), (8, .sub 1 j), (11, .ptr 3 0), (26, .ag [.c (.int .i64 (3)), .c (.int .i64 (3)), .c (.int .i64 (z)), .t (.rows m), .c (.int .i64 (3)), .c (.int .i64 (3)), .c (.int .i64 (z)), .t (.rows (swG 3 3 m))]), (27, .c (.int .i64 ((1 : Nat)))), (30, .own 1), (31, .c (.int .i64 (6))), (32, .c (.int .i64 (j))), (36, .own 1), (37, .c (.int .i64 (6))), (38, .c (.int .i64 (k))), (46, .t (.rows (playsL 6))), (47, .c (.int .i64 ((playsL 6).length))), (48, .c (.int .i64 (u.1)))], [(0, .cells 53 [.c (.int .i64 (3)), .c (.int .i64 (3)), .c (.int .i64 (z)), .t (.rows m)]), (1, .rows 25 3 true ords), (2, .cells 53 [.c (.int .i64 (3)), .c (.int .i64 (3)), .c (.int .i64 (z)), .t (.rows (stt m 1))]), (3, .cells 53 [.c (.int .i64 (3)), .c (.int .i64 (3)), .c (.int .i64 (z)), .t (.rows (agG 3 (stt m 1) (ords.getD j []) (ords.getD k [])))])], 4⟩ : St)) (fun u => u.1 ≤ 64 ∧ TTo m 1 j k u.1 u.2) (fun u => 64 - u.1) (0, g) ⟨by simp only; omega, k2⟩ (some [(0, .row 0), (1, .row 1), (2, .row 2), (3, .row 4)]) (by (refine ⟨rfl, rfl, ?_, ?_⟩ <;> ((repeat' (first | exact trivial | exact rfl | refine And.intro ?_ ?_)) <;> (try ((conv => whnf); first | refine vint ?_ | refine vboo ?_ | refine rint ?_ | refine rrow ?_ | skip)) <;> (try first | omega | (simp; done) | ((repeat rw [flts_closed _ (by assumption)]); exact vws_closed _ (by assumption)))))) (fun u hu => ?_)
            obtain ⟨u, g⟩ := u
            obtain ⟨u1, u2⟩ := hu
            simp only at u1 u2
            dsimp only
            refine ⟨fun h4 => ?_, fun h4 => ?_⟩
            · have h4 : u < (playsL 6).length := ltT h4
              have h4' : u < 64 := by omega
              have hfl := fl_at h4'
              have rf : R9 (flG 3 3 (agG 3 (stt m 1) (ords.getD j []) (ords.getD k [])) ((playsL 6).getD u [])) := ra.fl _
              have gb := u2.bd
              conv => whnf
              refine ⟨u, rfl, h4, ?_⟩
              conv => whnf
              refine ACall.use (flipped_spec 3 3 (by omega) (by omega) z _ ra.len ra.four ((playsL 6).getD u []) hfl.1 hfl.2) ?_
              conv => whnf
              refine ACall.use (triple_spec z _ rf) ?_
              conv => whnf
              rw [nat_wrap (by omega)]
              refine ⟨(u + 1, if tvI m 1 j k u > g then tvI m 1 j k u else g), some [(0, .row 0), (1, .row 1), (2, .row 2), (3, .row 3)], ?_, ⟨by simp only; omega, u2.nextU h9 (by omega) h2 h3 h4' rfl⟩, by simp only; omega⟩
              (refine ⟨rfl, rfl, ?_, ?_⟩ <;> ((repeat' (first | exact trivial | exact rfl | refine And.intro ?_ ?_)) <;> (try ((conv => whnf); first | refine vint ?_ | refine vboo ?_ | refine rint ?_ | refine rrow ?_ | skip)) <;> (try first | omega | (simp; done) | ((repeat rw [flts_closed _ (by assumption)]); exact vws_closed _ (by assumption)))))
            · have h4 : ¬ u < (playsL 6).length := ltF h4
              obtain rfl : u = 64 := by omega
              conv => whnf
              rw [nat_wrap (by omega)]
              exact ⟨(k + 1, g), some [(0, .row 0), (1, .row 1), (2, .row 2)], (by (refine ⟨rfl, rfl, ?_, ?_⟩ <;> ((repeat' (first | exact trivial | exact rfl | refine And.intro ?_ ?_)) <;> (try ((conv => whnf); first | refine vint ?_ | refine vboo ?_ | refine rint ?_ | refine rrow ?_ | skip)) <;> (try first | omega | (simp; done) | ((repeat rw [flts_closed _ (by assumption)]); exact vws_closed _ (by assumption)))))), ⟨by simp only; omega, u2.nextJ⟩, by simp only; omega⟩
          · have h3 : ¬ k < 6 := by have := of_decide_eq_false h3; omega
            obtain rfl : k = 6 := by omega
            conv => whnf
            rw [nat_wrap (by omega)]
            exact ⟨(j + 1, g), none, (by refine ⟨rfl, rfl, ?_, ?_⟩ <;> ((repeat' (first | exact trivial | exact rfl | refine And.intro ?_ ?_)) <;> (try ((conv => whnf); first | refine vint ?_ | refine vboo ?_ | refine rint ?_ | refine rrow ?_ | skip)) <;> (try first | omega | (simp; done) | ((repeat rw [flts_closed _ (by assumption)]); exact vws_closed _ (by assumption))))), ⟨by simp only; omega, k2.nextI⟩, by simp only; omega⟩
        · have h2 : ¬ j < 6 := by have := of_decide_eq_false h2; omega
          obtain rfl : j = 6 := by omega
          conv => whnf
          exact ⟨(1 + 1, g), some [(0, .row 0), (1, .row 1)], (by (refine ⟨rfl, rfl, ?_, ?_⟩ <;> ((repeat' (first | exact trivial | exact rfl | refine And.intro ?_ ?_)) <;> (try ((conv => whnf); first | refine vint ?_ | refine vboo ?_ | refine rint ?_ | refine rrow ?_ | skip)) <;> (try first | omega | (simp; done) | ((repeat rw [flts_closed _ (by assumption)]); exact vws_closed _ (by assumption)))))), ⟨by simp only; omega, j2.nextS⟩, by simp only; omega⟩
    · have h : ¬ i < 2 := by have := of_decide_eq_false h; omega
      obtain rfl : i = 2 := by omega
      conv => whnf
      exact ⟨rfl, g, i2.fin, rfl⟩

theorem isTriple_spec (nx ny : Nat) (z : Int) (m : List (List Int)) (hg : goodB nx ny z m = true) (km : SzM m) : FSpec Try.prog 242 [.ag [.c (.int .i64 (nx)), .c (.int .i64 (ny)), .c (.int .i64 (z)), .t (.rows m)]] (ex (.c (.bool (quietF nx ny m && (decide ((nx : Int) = 3) && decide ((ny : Int) = 3))))) []) := by
  have eq : quietB nx ny z m = quietF nx ny m := by rw [quietB, hg, Bool.true_and, Int.toNat_natCast, Int.toNat_natCast]
  refine fspec tyOk mx Try.func242 rfl (by kernel_rfl) rfl ?_
  conv => whnf
  refine ACall.use (isQuiet_spec nx ny z m km) ?_
  rw [eq]
  conv => whnf
  refine ⟨fun h => ?_, fun h => ?_⟩
  · conv => whnf
    refine ⟨fun h2 => ?_, fun h2 => ?_⟩
    · conv => whnf
      refine ⟨?_, rfl⟩
      have h2 : (nx : Int) = 3 := by simpa using h2
      rw [h, decide_eq_true h2]
      rfl
    · have h2 : ¬ (nx : Int) = 3 := by simpa using h2
      conv => whnf
      refine ⟨?_, rfl⟩
      rw [h, decide_eq_false h2]
      rfl
  · (repeat (conv => whnf); (first | refine ⟨fun h => absurd h (by decide), fun _ => ?_⟩ | refine ⟨fun _ => ?_, fun h => absurd h (by decide)⟩)); conv => whnf
    refine ⟨?_, rfl⟩
    rw [h]; rfl
theorem isLocal_spec (nx ny : Nat) (z : Int) (m : List (List Int)) (hg : goodB nx ny z m = true) (km : SzM m) : FSpec Try.prog 160 [.ag [.c (.int .i64 (nx)), .c (.int .i64 (ny)), .c (.int .i64 (z)), .t (.rows m)]] (ex (.c (.bool (locB nx ny z m))) []) := by
  have hg' := hg
  obtain ⟨a, b, ea, eb, g1, g2, g3, g4, g5, g6, g7, g8, g9⟩ := goodB_spec hg'
  obtain rfl : nx = a := by omega
  obtain rfl : ny = b := by omega
  have h4 : ∀ r, r ∈ m → r.length = 4 := fun r hr => (g9 r hr).1
  have hB : AgB m := ag_bd g6 g9
  have eq : quietB nx ny z m = quietF nx ny m := by rw [quietB, hg, Bool.true_and, Int.toNat_natCast, Int.toNat_natCast]
  have e2 : IntKind.i64.wrap (2 * z) = 2 * z := w64 (by omega) (by omega)
  refine fspec tyOk mx Try.func160 rfl (by kernel_rfl) rfl ?_
  conv => whnf
  refine ACall.use' (greatest_spec nx ny z m g2 g4 g7 h4 hB) ?_
  rintro v h ⟨rfl, g, p0, p1, q0, q1, kk, t, hgs, hg4, rfl⟩
  have hle := hgs.le (z := 2 * z) (by omega)
  conv => whnf
  refine ACall.use (isQuiet_spec nx ny z m km) ?_
  rw [eq]
  conv => whnf
  refine ⟨fun h => ?_, fun h => ?_⟩
  · conv => whnf
    rw [e2]
    refine ⟨fun h2 => ?_, fun h2 => ?_⟩
    · have h2 : g ≤ 2 * z := of_decide_eq_true h2
      conv => whnf
      refine ACall.use (isTriple_spec nx ny z m hg km) ?_
      rw [h, Bool.true_and]
      conv => whnf
      refine ⟨fun h3 => ?_, fun h3 => ?_⟩
      · have h3 : (nx : Int) = 3 ∧ (ny : Int) = 3 := by simpa using h3
        obtain rfl : nx = 3 := by omega
        obtain rfl : ny = 3 := by omega
        have h9 : R9 m := ⟨by omega, h4, Bd.of fun r hr v hv => by have := (g9 r hr).2.1 v hv; omega⟩
        conv => whnf
        refine ACall.use' (greatestTriple_spec z m h9) ?_
        rintro v h ⟨rfl, gt, hgt, rfl⟩
        have hl2 := hgt.le (z := 0)
        conv => whnf
        refine ⟨?_, rfl⟩
        rw [locB_of (b := decide (gt ≤ 0))]
        rw [decide_eq_true_iff]
        exact ⟨fun hz => ⟨h, hle.1 h2, fun _ _ => hl2.1 hz⟩, fun hl => hl2.2 (hl.trip rfl rfl)⟩
      · have h3 : ¬ (nx : Int) = 3 ∨ ¬ (ny : Int) = 3 := by simpa using h3
        have h3 : ¬ ((nx : Int) = 3 ∧ (ny : Int) = 3) := by omega
        conv => whnf
        refine ⟨?_, rfl⟩
        rw [locB_of (b := true)]
        exact ⟨fun _ => ⟨h, hle.1 h2, fun ex ey => absurd ⟨by omega, by omega⟩ h3⟩, fun _ => rfl⟩
    · have h2 : ¬ g ≤ 2 * z := of_decide_eq_false h2
      (repeat (conv => whnf); (first | refine ⟨fun h => absurd h (by decide), fun _ => ?_⟩ | refine ⟨fun _ => ?_, fun h => absurd h (by decide)⟩)); conv => whnf
      refine ⟨?_, rfl⟩
      rw [locB_of (b := false)]
      exact ⟨fun hf => (by cases hf), fun hl => absurd (hle.2 hl.sums) h2⟩
  · (repeat (conv => whnf); (first | refine ⟨fun h => absurd h (by decide), fun _ => ?_⟩ | refine ⟨fun _ => ?_, fun h => absurd h (by decide)⟩)); conv => whnf
    refine ⟨?_, rfl⟩
    rw [locB_of (b := false)]
    exact ⟨fun hf => (by cases hf), fun hl => by rw [hl.quiet] at h; cases h⟩
noncomputable def lcV (x y z : Int) (m : List (List Int)) : Bool := goodB x y z m && locB x.toNat y.toNat z m
theorem IsLocal_i (x y z : Int) (m : List (List Int)) (km : SzM m) : FSpec Try.prog 43 [.ag [.c (.int .i64 (x)), .c (.int .i64 (y)), .c (.int .i64 (z)), .t (.rows m)]] (ex (.tu [.c (.bool (lcV x y z m)), .c (.bool (goodB x y z m))]) []) := by
  refine fspec tyOk mx Try.func43 rfl (by kernel_rfl) rfl ?_
  conv => whnf
  refine ACall.use (IsBox_spec x y z m km) ?_
  conv => whnf
  refine ⟨fun h => ?_, fun h => ?_⟩
  · have h : goodB x y z m = false := by simpa using h
    conv => whnf
    exact ⟨by rw [lcV, h]; rfl, rfl⟩
  · have h : goodB x y z m = true := by simpa using h
    have h' := h
    obtain ⟨nx, ny, rfl, rfl, _⟩ := goodB_spec h'
    conv => whnf
    refine ACall.use (isLocal_spec nx ny z m h km) ?_
    conv => whnf
    exact ⟨by rw [lcV, h, Bool.true_and, Int.toNat_natCast, Int.toNat_natCast], rfl⟩
end Go.Proofs.Ytkomndcehdneaaa.L
/- Mixtures: good boxes, quiet, local, worths. -/
namespace Go.Proofs.Ytkomndcehdneaaa
open Go.Aw
set_option maxRecDepth 100000
set_option maxHeartbeats 4000000

theorem uB_at {nx ny i x y : Nat} (hx : nx ≤ 3) (hy : ny ≤ 3) (hi : i < 2 ^ (nx + ny)) (h1 : x < nx) (h2 : y < ny) : ∃ a b : Nat, a < 2 ∧ b < 2 ∧ ((playsL (nx + ny)).getD i []).getD x 0 = a ∧ ((playsL (nx + ny)).getD i []).getD (nx + y) 0 = b ∧
    ∀ e, e < 4 → ent (uB nx ny i) (x * ny + y) e = if e = 2 * a + b then 1 else 0 := by
  obtain ⟨_, p2⟩ := playsL_row (n := nx + ny) (x := i) (by omega) (by rw [playsL_len]; exact hi)
  have q1 : (x * ny + y) / ny = x := by rw [Nat.mul_comm, Nat.mul_add_div (by omega), Nat.div_eq_of_lt h2, Nat.add_zero]
  have q2 : (x * ny + y) % ny = y := by rw [Nat.mul_comm, Nat.mul_add_mod, Nat.mod_eq_of_lt h2]
  have b1 := bits_mem p2 (i := x)
  have b2 := bits_mem p2 (i := nx + y)
  refine ⟨(((playsL (nx + ny)).getD i []).getD x 0).toNat, (((playsL (nx + ny)).getD i []).getD (nx + y) 0).toNat, by omega, by omega, by omega, by omega, fun e he => ?_⟩
  rw [uB_ent hx hy hi (ix_lt h1 h2) he, q1, q2, bitIx]
  generalize ((playsL (nx + ny)).getD i []).getD x 0 = a at b1
  generalize ((playsL (nx + ny)).getD i []).getD (nx + y) 0 = b at b2
  by_cases c : e = (2 * a + b).toNat
  · rw [if_pos c, if_pos (by omega)]
  · rw [if_neg c, if_neg (by omega)]
theorem uB_o0 {nx ny i x y : Nat} (hx : nx ≤ 3) (hy : ny ≤ 3) (hi : i < 2 ^ (nx + ny)) (h1 : x < nx) (h2 : y < ny) : ent (uB nx ny i) (x * ny + y) 2 + ent (uB nx ny i) (x * ny + y) 3 = ((playsL (nx + ny)).getD i []).getD x 0 := by
  obtain ⟨a, b, ha, hb, ea, eb, h⟩ := uB_at hx hy hi h1 h2
  rw [h 2 (by omega), h 3 (by omega), ea]
  have h1 : a = 0 ∨ a = 1 := by omega
  have h2 : b = 0 ∨ b = 1 := by omega
  rcases h1 with rfl | rfl <;> rcases h2 with rfl | rfl <;> rfl
theorem uB_o1 {nx ny i x y : Nat} (hx : nx ≤ 3) (hy : ny ≤ 3) (hi : i < 2 ^ (nx + ny)) (h1 : x < nx) (h2 : y < ny) : ent (uB nx ny i) (x * ny + y) 1 + ent (uB nx ny i) (x * ny + y) 3 = ((playsL (nx + ny)).getD i []).getD (nx + y) 0 := by
  obtain ⟨a, b, ha, hb, ea, eb, h⟩ := uB_at hx hy hi h1 h2
  rw [h 1 (by omega), h 3 (by omega), eb]
  have h1 : a = 0 ∨ a = 1 := by omega
  have h2 : b = 0 ∨ b = 1 := by omega
  rcases h1 with rfl | rfl <;> rcases h2 with rfl | rfl <;> rfl
def agE (m : List (List Int)) (p : Nat) : Int := ent m p 0 - ent m p 1 - ent m p 2 + ent m p 3
theorem uB_ag {nx ny i x y : Nat} (hx : nx ≤ 3) (hy : ny ≤ 3) (hi : i < 2 ^ (nx + ny)) (h1 : x < nx) (h2 : y < ny) : agE (uB nx ny i) (x * ny + y) = (1 - 2 * ((playsL (nx + ny)).getD i []).getD x 0) * (1 - 2 * ((playsL (nx + ny)).getD i []).getD (nx + y) 0) := by
  obtain ⟨a, b, ha, hb, ea, eb, h⟩ := uB_at hx hy hi h1 h2
  rw [agE, h 0 (by omega), h 1 (by omega), h 2 (by omega), h 3 (by omega), ea, eb]
  have h1 : a = 0 ∨ a = 1 := by omega
  have h2 : b = 0 ∨ b = 1 := by omega
  rcases h1 with rfl | rfl <;> rcases h2 with rfl | rfl <;> rfl
/-- a box that is alike the mixture of shares -/
structure MixOf (nx ny : Nat) (l : List Int) (z : Int) (k : List (List Int)) : Prop where
  x1 : 1 ≤ nx
  x3 : nx ≤ 3
  y1 : 1 ≤ ny
  y3 : ny ≤ 3
  sh : Shs l (2 ^ (nx + ny))
  w1 : 1 ≤ sumF l l.length
  w2 : sumF l l.length ≤ 1000
  good : goodB nx ny z k = true
  eq : ∀ q e, q < nx * ny → e < 4 → ent k q e * sumF l l.length = z * sm (fun i => l.getD i 0 * ent (uB nx ny i) q e) (2 ^ (nx + ny))
theorem sh_of {x y : Int} {l : List Int} (h : shOk x y l = true) : ∃ nx ny : Nat, x = nx ∧ y = ny ∧ 1 ≤ nx ∧ nx ≤ 3 ∧ 1 ≤ ny ∧ ny ≤ 3 ∧ Shs l (2 ^ (nx + ny)) ∧ 1 ≤ sumF l l.length ∧ sumF l l.length ≤ 1000 := by
  obtain ⟨nx, ny, rfl, rfl, a1, a2, a3, a4, hl, hv, w1, w2⟩ := shOk_spec h
  exact ⟨nx, ny, rfl, rfl, a1, a2, a3, a4, ⟨two_pow6 (by omega), hl, hv⟩, w1, w2⟩
theorem good_entP {x y z : Int} {m : List (List Int)} (h : goodB x y z m = true) {p q : Nat} (hp : p < m.length) (hq : q < 4) : 0 ≤ ent m p q ∧ ent m p q ≤ z := by
  obtain ⟨na, nb, _, _, _, _, _, _, _, _, _, _, g9⟩ := goodB_spec h
  obtain ⟨h4, hv, _⟩ := g9 _ (getD_mem (d := []) hp)
  exact hv _ (getD_mem (d := 0) (by omega))
/-- a mixture is a box -/
theorem mix_good {nx ny : Nat} {l : List Int} (x1 : 1 ≤ nx) (hx : nx ≤ 3) (y1 : 1 ≤ ny) (hy : ny ≤ 3) (h : Shs l (2 ^ (nx + ny))) (w1 : 1 ≤ sumF l l.length) (w2 : sumF l l.length ≤ 1000) : goodB nx ny (sumF l l.length) (mixL l nx ny) = true := by
  have sq := Sq.mix l nx ny (2 ^ (nx + ny))
  have hs := (h.sum (2 ^ (nx + ny)) h.le).1
  have hw : sumF l l.length = sm (fun i => l.getD i 0) (2 ^ (nx + ny)) := by rw [h.len, hs]
  simp only [goodB, Bool.and_eq_true, decide_eq_true_eq, List.all_eq_true, szOk, inR_iff]
  refine ⟨⟨⟨⟨by omega, by omega⟩, by omega, by omega⟩, by rw [mixL, sq.1]; simp⟩, fun r hr => ?_⟩
  obtain ⟨q, hq, rfl⟩ := List.mem_iff_getElem.1 hr
  have hq' : q < nx * ny := by rw [← sq.1]; exact hq
  have er : (mixL l nx ny)[q] = (mixL l nx ny).getD q [] := by simp [List.getD, hq]
  rw [er]
  have h4 := sq.row hq'
  have M : ∀ e, e < 4 → ((mixL l nx ny).getD q []).getD e 0 = sm (fun i => l.getD i 0 * ent (uB nx ny i) q e) (2 ^ (nx + ny)) ∧ 0 ≤ ((mixL l nx ny).getD q []).getD e 0 := fun e he => by
    have := mix_ent hx hy h hq' he (2 ^ (nx + ny)) (Nat.le_refl _)
    exact ⟨this.1, this.2.1⟩
  have tot4 : sm (fun i => l.getD i 0 * ent (uB nx ny i) q 0) (2 ^ (nx + ny)) + sm (fun i => l.getD i 0 * ent (uB nx ny i) q 1) (2 ^ (nx + ny)) + sm (fun i => l.getD i 0 * ent (uB nx ny i) q 2) (2 ^ (nx + ny)) + sm (fun i => l.getD i 0 * ent (uB nx ny i) q 3) (2 ^ (nx + ny)) = sumF l l.length := by
    rw [hw, ← sm_add, ← sm_add, ← sm_add]
    refine sm_congr fun i hi => ?_
    obtain ⟨s1, s2, s3⟩ := split_ix hq'
    obtain ⟨a, b, ha, hb, _, _, hh⟩ := uB_at hx hy hi s1 s2
    rw [← s3] at hh
    rw [hh 0 (by omega), hh 1 (by omega), hh 2 (by omega), hh 3 (by omega)]
    generalize l.getD i 0 = v
    have h1 : a = 0 ∨ a = 1 := by omega
    have h2 : b = 0 ∨ b = 1 := by omega
    rcases h1 with rfl | rfl <;> rcases h2 with rfl | rfl <;> simp
  have m0 := M 0 (by omega); have m1 := M 1 (by omega); have m2 := M 2 (by omega); have m3 := M 3 (by omega)
  have h4 : ((mixL l nx ny).getD q []).length = 4 := h4
  generalize (mixL l nx ny).getD q [] = r at h4 m0 m1 m2 m3
  match r, h4 with
  | [a, b, c, d], _ =>
    have e0 : [a, b, c, d].getD 0 0 = a := rfl
    have e1 : [a, b, c, d].getD 1 0 = b := rfl
    have e2 : [a, b, c, d].getD 2 0 = c := rfl
    have e3 : [a, b, c, d].getD 3 0 = d := rfl
    rw [e0] at m0; rw [e1] at m1; rw [e2] at m2; rw [e3] at m3
    have ht : a + b + c + d = sumF l l.length := by rw [m0.1, m1.1, m2.1, m3.1]; exact tot4
    simp only [rowOk, Bool.and_eq_true, decide_eq_true_eq, rowIn_iff]
    refine ⟨⟨rfl, fun v hv => ?_⟩, ?_⟩
    · simp only [List.mem_cons, List.not_mem_nil, or_false] at hv
      omega
    · show W (W (W (W (0 + a) + b) + c) + d) = _
      rw [show W (0 + a) = a from by rw [Int.zero_add]; exact w64 (by omega) (by omega), show W (a + b) = a + b from w64 (by omega) (by omega), show W (a + b + c) = a + b + c from w64 (by omega) (by omega), show W (a + b + c + d) = a + b + c + d from w64 (by omega) (by omega)]
      exact ht
theorem mix_of {nx ny : Nat} {l : List Int} (x1 : 1 ≤ nx) (hx : nx ≤ 3) (y1 : 1 ≤ ny) (hy : ny ≤ 3) (h : Shs l (2 ^ (nx + ny))) (w1 : 1 ≤ sumF l l.length) (w2 : sumF l l.length ≤ 1000) : MixOf nx ny l (sumF l l.length) (mixL l nx ny) :=
  ⟨x1, hx, y1, hy, h, w1, w2, mix_good x1 hx y1 hy h w1 w2, fun q e hq he => by rw [mixL, (mix_ent hx hy h hq he _ (Nat.le_refl _)).1, Int.mul_comm]⟩
theorem alike_of {nx ny : Nat} {l : List Int} {z : Int} {k : List (List Int)} (x1 : 1 ≤ nx) (hx : nx ≤ 3) (y1 : 1 ≤ ny) (hy : ny ≤ 3) (h : Shs l (2 ^ (nx + ny))) (w1 : 1 ≤ sumF l l.length) (w2 : sumF l l.length ≤ 1000)
    (hg : goodB nx ny z k = true) (ha : alkB z (sumF l l.length) k (mixL l nx ny) = true) : MixOf nx ny l z k := by
  refine ⟨x1, hx, y1, hy, h, w1, w2, hg, fun q e hq he => ?_⟩
  obtain ⟨na, nb, ea, eb, _, _, _, _, z1, z2, g7, _, _⟩ := goodB_spec hg
  have hl : k.length = nx * ny := by rw [g7]; congr 1 <;> omega
  have hm := mix_good x1 hx y1 hy h w1 w2
  have sq := Sq.mix l nx ny (2 ^ (nx + ny))
  have k1 := good_entP hg (p := q) (q := e) (by omega) he
  have k2 := good_entP hm (p := q) (q := e) (by rw [mixL, sq.1]; exact hq) he
  simp only [alkB, List.all_eq_true, List.mem_range, alkN, decide_eq_true_eq] at ha
  have := ha q (by omega) e he
  have b1 : 0 ≤ ent k q e * sumF l l.length ∧ ent k q e * sumF l l.length ≤ 1000 * 1000 := ⟨Int.mul_nonneg k1.1 (by omega), Int.mul_le_mul (by omega) w2 (by omega) (by omega)⟩
  have b2 : 0 ≤ ent (mixL l nx ny) q e * z ∧ ent (mixL l nx ny) q e * z ≤ 1000 * 1000 := ⟨Int.mul_nonneg k2.1 (by omega), Int.mul_le_mul (by omega) z2 (by omega) (by omega)⟩
  have c1 : W (ent k q e * sumF l l.length) = W (ent (mixL l nx ny) q e * z) := this
  rw [show W (ent k q e * sumF l l.length) = ent k q e * sumF l l.length from w64 (by omega) (by omega), show W (ent (mixL l nx ny) q e * z) = ent (mixL l nx ny) q e * z from w64 (by omega) (by omega)] at c1
  rw [c1, mixL, (mix_ent hx hy h hq he _ (Nat.le_refl _)).1, Int.mul_comm]
theorem MixOf.le {nx ny : Nat} {l : List Int} {z : Int} {k : List (List Int)} (h : MixOf nx ny l z k) {F : List (List Int) → Int} (hF : Lin (nx * ny) F) {B : Int} (hU : ∀ i, i < 2 ^ (nx + ny) → F (uB nx ny i) ≤ B) : F k ≤ z * B := by
  obtain ⟨na, nb, _, _, _, _, _, _, z1, z2, _, _, _⟩ := goodB_spec h.good
  have hs := (h.sh.sum (2 ^ (nx + ny)) h.sh.le).1
  exact lin_le hF (w := sumF l l.length) (by have := h.w1; omega) (by omega) (fun i => (h.sh.at i).1) (by rw [h.sh.len, hs]) h.eq hU
theorem MixOf.zero {nx ny : Nat} {l : List Int} {z : Int} {k : List (List Int)} (h : MixOf nx ny l z k) {F : List (List Int) → Int} (hF : Lin (nx * ny) F) (hU : ∀ i, i < 2 ^ (nx + ny) → F (uB nx ny i) = 0) : F k = 0 := by
  have h1 := h.le hF (B := 0) (fun i hi => by rw [hU i hi]; omega)
  have h2 := h.le hF.neg (B := 0) (fun i hi => by rw [hU i hi]; omega)
  omega
end Go.Proofs.Ytkomndcehdneaaa
/- Mixtures are quiet and local, and have no greater worth than their Whole times the value. -/
namespace Go.Proofs.Ytkomndcehdneaaa
open Go.Aw
set_option maxRecDepth 100000
set_option maxHeartbeats 4000000

theorem MixOf.quiet {nx ny : Nat} {l : List Int} {z : Int} {k : List (List Int)} (h : MixOf nx ny l z k) : quietF nx ny k = true := by
  have hx := h.x3
  have hy := h.y3
  simp only [quietF, Bool.and_eq_true, List.all_eq_true, List.mem_range, q0r, q0, q1r, q1, beq_iff_eq, one0, one1]
  refine ⟨fun x hx' y hy' => congrArg W ?_, fun y hy' x hx' => congrArg W ?_⟩
  · have p1 := ix_lt hx' hy'
    have p0 := ix_lt hx' (show 0 < ny from h.y1)
    have key := h.zero (F := fun m => (ent m (x * ny + y) 2 + ent m (x * ny + y) 3) - (ent m (x * ny + 0) 2 + ent m (x * ny + 0) 3)) (((Lin.ent p1 (by omega)).add (Lin.ent p1 (by omega))).sub ((Lin.ent p0 (by omega)).add (Lin.ent p0 (by omega))))
      (fun i hi => by
        have a1 := uB_o0 hx hy hi hx' hy'
        have a2 := uB_o0 hx hy hi hx' (show 0 < ny from h.y1)
        show (ent (uB nx ny i) (x * ny + y) 2 + ent (uB nx ny i) (x * ny + y) 3) - (ent (uB nx ny i) (x * ny + 0) 2 + ent (uB nx ny i) (x * ny + 0) 3) = 0
        rw [a1, a2]; omega)
    have key : (ent k (x * ny + y) 2 + ent k (x * ny + y) 3) - (ent k (x * ny + 0) 2 + ent k (x * ny + 0) 3) = 0 := key
    show ent k (x * ny + y) 2 + ent k (x * ny + y) 3 = ent k (x * ny + 0) 2 + ent k (x * ny + 0) 3
    omega
  · have p1 := ix_lt hx' hy'
    have p0 := ix_lt (show 0 < nx from h.x1) hy'
    have key := h.zero (F := fun m => (ent m (x * ny + y) 1 + ent m (x * ny + y) 3) - (ent m (0 * ny + y) 1 + ent m (0 * ny + y) 3)) (((Lin.ent p1 (by omega)).add (Lin.ent p1 (by omega))).sub ((Lin.ent p0 (by omega)).add (Lin.ent p0 (by omega))))
      (fun i hi => by
        have a1 := uB_o1 hx hy hi hx' hy'
        have a2 := uB_o1 hx hy hi (show 0 < nx from h.x1) hy'
        show (ent (uB nx ny i) (x * ny + y) 1 + ent (uB nx ny i) (x * ny + y) 3) - (ent (uB nx ny i) (0 * ny + y) 1 + ent (uB nx ny i) (0 * ny + y) 3) = 0
        rw [a1, a2]; omega)
    have key : (ent k (x * ny + y) 1 + ent k (x * ny + y) 3) - (ent k (0 * ny + y) 1 + ent k (0 * ny + y) 3) = 0 := key
    show ent k (x * ny + y) 1 + ent k (x * ny + y) 3 = ent k (0 * ny + y) 1 + ent k (0 * ny + y) 3
    omega

theorem ag_E {x y z : Int} {k : List (List Int)} (h : goodB x y z k = true) {p : Nat} (hp : p < k.length) : agAt k p = agE k p := by
  obtain ⟨na, nb, _, _, _, _, _, _, z1, z2, _, _, g9⟩ := goodB_spec h
  obtain ⟨h4, hv, hs⟩ := g9 _ (getD_mem (d := []) hp)
  obtain ⟨a, b, c, d, e, ha, hb, hc, hd, hs⟩ := row4 z2 h4 hv hs
  unfold agAt agE ent
  rw [e]
  show W (W (W (a - b) - c) + d) = a - b - c + d
  rw [show W (a - b) = a - b from w64 (by omega) (by omega), show W (a - b - c) = a - b - c from w64 (by omega) (by omega), show W (a - b - c + d) = a - b - c + d from w64 (by omega) (by omega)]
theorem Lin.ag {n p : Nat} (hp : p < n) : Lin n (fun m => agE m p) := (((Lin.ent hp (by omega)).sub (Lin.ent hp (by omega))).sub (Lin.ent hp (by omega))).add (Lin.ent hp (by omega))
theorem Lin.sgn {n : Nat} {F : List (List Int) → Int} (hF : Lin n F) (k j : Nat) : Lin n (fun m => sgn k j (F m)) := by
  by_cases h : j = k
  · exact hF.neg.of fun m => by rw [Go.Aw.sgn, if_pos h]
  · exact hF.of fun m => by rw [Go.Aw.sgn, if_neg h]
def sumE (ny : Nat) (m : List (List Int)) (a b c d k : Nat) : Int := sgn k 0 (agE m (a * ny + c)) + sgn k 1 (agE m (a * ny + d)) + sgn k 2 (agE m (b * ny + c)) + sgn k 3 (agE m (b * ny + d))
theorem MixOf.sums {nx ny : Nat} {l : List Int} {z : Int} {m : List (List Int)} (h : MixOf nx ny l z m) (a b c d k : Nat) (hab : a < b) (hb : b < nx) (hcd : c < d) (hd : d < ny) (hk : k < 4) : abV (sum4V ny m a b c d k) ≤ 2 * z := by
  have hx := h.x3
  have hy := h.y3
  obtain ⟨na, nb, ea, eb, _, _, _, _, z1, z2, g7, _, _⟩ := goodB_spec h.good
  have hl : m.length = nx * ny := by rw [g7]; congr 1 <;> omega
  have p1 := ix_lt (show a < nx by omega) (show c < ny by omega)
  have p2 := ix_lt (show a < nx by omega) hd
  have p3 := ix_lt hb (show c < ny by omega)
  have p4 := ix_lt hb hd
  have es : sum4V ny m a b c d k = sumE ny m a b c d k := by
    rw [sum4V, sumE, ag_E h.good (by omega), ag_E h.good (by omega), ag_E h.good (by omega), ag_E h.good (by omega)]
  have hL : Lin (nx * ny) (fun m => sumE ny m a b c d k) := ((((Lin.ag p1).sgn k 0).add ((Lin.ag p2).sgn k 1)).add ((Lin.ag p3).sgn k 2)).add ((Lin.ag p4).sgn k 3)
  have hU : ∀ i, i < 2 ^ (nx + ny) → -2 ≤ sumE ny (uB nx ny i) a b c d k ∧ sumE ny (uB nx ny i) a b c d k ≤ 2 := fun i hi => by
    obtain ⟨_, q2⟩ := playsL_row (n := nx + ny) (x := i) (by omega) (by rw [playsL_len]; exact hi)
    rw [sumE, uB_ag hx hy hi (by omega) (by omega), uB_ag hx hy hi (by omega) hd, uB_ag hx hy hi hb (by omega), uB_ag hx hy hi hb hd]
    have b1 := bits_mem q2 (i := a); have b2 := bits_mem q2 (i := b); have b3 := bits_mem q2 (i := nx + c); have b4 := bits_mem q2 (i := nx + d)
    generalize ((playsL (nx + ny)).getD i []).getD a 0 = u at b1
    generalize ((playsL (nx + ny)).getD i []).getD b 0 = u' at b2
    generalize ((playsL (nx + ny)).getD i []).getD (nx + c) 0 = v at b3
    generalize ((playsL (nx + ny)).getD i []).getD (nx + d) 0 = v' at b4
    have b1 : u = 0 ∨ u = 1 := by omega
    have b2 : u' = 0 ∨ u' = 1 := by omega
    have b3 : v = 0 ∨ v = 1 := by omega
    have b4 : v' = 0 ∨ v' = 1 := by omega
    have hk : k = 0 ∨ k = 1 ∨ k = 2 ∨ k = 3 := by omega
    rcases hk with rfl | rfl | rfl | rfl <;> rcases b1 with rfl | rfl <;> rcases b2 with rfl | rfl <;> rcases b3 with rfl | rfl <;> rcases b4 with rfl | rfl <;> decide
  have k1 := h.le hL (B := 2) (fun i hi => (hU i hi).2)
  have k2 := h.le hL.neg (B := 2) (fun i hi => by
    have := (hU i hi).1
    show - sumE ny (uB nx ny i) a b c d k ≤ 2
    omega)
  have k1 : sumE ny m a b c d k ≤ z * 2 := k1
  have k2 : - sumE ny m a b c d k ≤ z * 2 := k2
  rw [es]
  unfold abV; split <;> omega

/-! the triples -/
def LinE (G : List (List Int) → List (List Int)) : Prop := ∀ q e, q < 9 → e < 4 → Lin 9 (fun m => ent (G m) q e)
theorem en_ent (m : List (List Int)) (x y a c : Nat) : enV 3 m x y a c = ent m (x * 3 + y) (2 * a + c) := rfl
theorem LinE.sel {G H : List (List Int) → List (List Int)} (hG : LinE G) (h : ∀ x y e, x < 3 → y < 3 → e < 4 → ∃ q' e', q' < 9 ∧ e' < 4 ∧ ∀ m, ent (H m) (x * 3 + y) e = ent (G m) q' e') : LinE H := fun q e hq he => by
  obtain ⟨s1, s2, s3⟩ := split_ix (nx := 3) (ny := 3) hq
  obtain ⟨q', e', h1, h2, h3⟩ := h _ _ e s1 s2 he
  rw [← s3] at h3
  exact (hG q' e' h1 h2).of h3
theorem e2 {e : Nat} (h : e < 4) : e / 2 < 2 ∧ e % 2 < 2 := by omega
theorem LinE.id : LinE (fun m => m) := fun q e hq he => Lin.ent hq he
theorem LinE.sw {G : List (List Int) → List (List Int)} (hG : LinE G) : LinE (fun m => swG 3 3 (G m)) := hG.sel fun x y e hx hy he => ⟨y * 3 + x, 2 * (e % 2) + e / 2, by omega, by omega, fun m => by rw [swG, boxRows_ent _ hx hy he, en_ent]⟩
theorem LinE.st (s : Nat) : LinE (fun m => stt m s) := by
  match s with
  | 0 => exact LinE.id
  | _ + 1 => exact LinE.id.sw
theorem ord_at {f : List Int} (h : f ∈ ords) (x : Nat) : (f.getD x 0).toNat < 3 := by
  have := (ords_ok h).2
  by_cases hx : x < f.length
  · have := this _ (getD_mem (d := 0) hx); omega
  · rw [getD_outP hx]; decide
theorem LinE.og {G : List (List Int) → List (List Int)} (hG : LinE G) {f g : List Int} (hf : f ∈ ords) (hg : g ∈ ords) : LinE (fun m => agG 3 (G m) f g) := hG.sel fun x y e hx hy he => by
  have a1 := ord_at hf x
  have a2 := ord_at hg y
  refine ⟨(f.getD x 0).toNat * 3 + (g.getD y 0).toNat, 2 * (e / 2) + e % 2, by omega, by omega, fun m => ?_⟩
  rw [agG, (ords_ok hf).1, (ords_ok hg).1, boxRows_ent _ hx hy he, en_ent]
theorem LinE.fl {G : List (List Int) → List (List Int)} (hG : LinE G) (fl : List Int) : LinE (fun m => flG 3 3 (G m) fl) := hG.sel fun x y e hx hy he => by
  have a1 := xb_lt (f := fl.getD x 0) (e2 he).1
  have a2 := xb_lt (f := fl.getD (3 + y) 0) (e2 he).2
  refine ⟨x * 3 + y, 2 * xb (e / 2) (fl.getD x 0) + xb (e % 2) (fl.getD (3 + y) 0), by omega, by omega, fun m => ?_⟩
  rw [flG, boxRows_ent _ hx hy he, en_ent]
theorem tv_ent (m : List (List Int)) : tv m = ent m (0 * 3 + 0) 3 + ent m (0 * 3 + 1) 3 + ent m (0 * 3 + 2) 3 + ent m (1 * 3 + 0) 3 + ent m (1 * 3 + 1) 3 - ent m (1 * 3 + 2) 3 + ent m (2 * 3 + 0) 3 - ent m (2 * 3 + 1) 3 - (ent m (0 * 3 + 0) 2 + ent m (0 * 3 + 0) 3) - 2 * (ent m (0 * 3 + 0) 1 + ent m (0 * 3 + 0) 3) - (ent m (0 * 3 + 1) 1 + ent m (0 * 3 + 1) 3) := rfl
theorem LinE.tv {G : List (List Int) → List (List Int)} (hG : LinE G) : Lin 9 (fun m => Go.Aw.tv (G m)) := by
  have L : ∀ q e, q < 9 → e < 4 → Lin 9 (fun m => ent (G m) q e) := hG
  refine Lin.of ((((((((((( L (0 * 3 + 0) 3 (by omega) (by omega)).add (L (0 * 3 + 1) 3 (by omega) (by omega))).add (L (0 * 3 + 2) 3 (by omega) (by omega))).add (L (1 * 3 + 0) 3 (by omega) (by omega))).add (L (1 * 3 + 1) 3 (by omega) (by omega))).sub (L (1 * 3 + 2) 3 (by omega) (by omega))).add (L (2 * 3 + 0) 3 (by omega) (by omega))).sub (L (2 * 3 + 1) 3 (by omega) (by omega))).sub ((L (0 * 3 + 0) 2 (by omega) (by omega)).add (L (0 * 3 + 0) 3 (by omega) (by omega)))).sub (((L (0 * 3 + 0) 1 (by omega) (by omega)).add (L (0 * 3 + 0) 3 (by omega) (by omega))).smul 2)).sub ((L (0 * 3 + 1) 1 (by omega) (by omega)).add (L (0 * 3 + 1) 3 (by omega) (by omega)))) fun m => tv_ent (G m)
/-- the table of a play -/
def Un (P Q : Nat → Nat) (m : List (List Int)) : Prop := (∀ x, P x < 2) ∧ (∀ y, Q y < 2) ∧ ∀ x y e, x < 3 → y < 3 → e < 4 → ent m (x * 3 + y) e = if e = 2 * P x + Q y then 1 else 0
theorem if_iff {p q : Prop} [Decidable p] [Decidable q] (h : p ↔ q) : (if p then (1 : Int) else 0) = if q then 1 else 0 := by
  by_cases hp : p
  · rw [if_pos hp, if_pos (h.1 hp)]
  · rw [if_neg hp, if_neg (fun hq => hp (h.2 hq))]
theorem Un.sw {P Q : Nat → Nat} {m : List (List Int)} (h : Un P Q m) : Un Q P (swG 3 3 m) := by
  refine ⟨h.2.1, h.1, fun x y e hx hy he => ?_⟩
  rw [swG, boxRows_ent _ hx hy he, en_ent, h.2.2 y x _ hy hx (by omega)]
  have := h.1 y
  have := h.2.1 x
  exact if_iff (by omega)
theorem Un.st {P Q : Nat → Nat} {m : List (List Int)} (h : Un P Q m) (s : Nat) : ∃ P' Q', Un P' Q' (stt m s) := by
  match s with
  | 0 => exact ⟨P, Q, h⟩
  | _ + 1 => exact ⟨Q, P, h.sw⟩
theorem Un.ag {P Q : Nat → Nat} {m : List (List Int)} (h : Un P Q m) {f g : List Int} (hf : f ∈ ords) (hg : g ∈ ords) : Un (fun x => P (f.getD x 0).toNat) (fun y => Q (g.getD y 0).toNat) (agG 3 m f g) := by
  refine ⟨fun x => h.1 _, fun y => h.2.1 _, fun x y e hx hy he => ?_⟩
  dsimp only
  rw [agG, (ords_ok hf).1, (ords_ok hg).1, boxRows_ent _ hx hy he, en_ent, h.2.2 _ _ _ (ord_at hf x) (ord_at hg y) (by omega)]
  exact if_iff (by omega)
theorem xb_xb {a b : Nat} {f : Int} (ha : a < 2) (hb : b < 2) : xb a f = b ↔ a = xb b f := by unfold xb; split <;> omega
theorem Un.fl {P Q : Nat → Nat} {m : List (List Int)} (h : Un P Q m) (fl : List Int) : Un (fun x => xb (P x) (fl.getD x 0)) (fun y => xb (Q y) (fl.getD (3 + y) 0)) (flG 3 3 m fl) := by
  refine ⟨fun x => xb_lt (h.1 x), fun y => xb_lt (h.2.1 y), fun x y e hx hy he => ?_⟩
  dsimp only
  have a1 := xb_lt (f := fl.getD x 0) (e2 he).1
  have a2 := xb_lt (f := fl.getD (3 + y) 0) (e2 he).2
  rw [flG, boxRows_ent _ hx hy he, en_ent, h.2.2 _ _ _ hx hy (by omega)]
  have p1 := h.1 x
  have p2 := h.2.1 y
  have b1 := xb_lt (f := fl.getD x 0) p1
  have b2 := xb_lt (f := fl.getD (3 + y) 0) p2
  have c1 := xb_xb (f := fl.getD x 0) (e2 he).1 p1
  have c2 := xb_xb (f := fl.getD (3 + y) 0) (e2 he).2 p2
  refine if_iff ?_
  constructor
  · intro hh
    have d1 := c1.1 (by omega)
    have d2 := c2.1 (by omega)
    omega
  · intro hh
    have d1 := c1.2 (by omega)
    have d2 := c2.2 (by omega)
    omega
def b3 (e a b : Nat) : Int := if e = 2 * a + b then 1 else 0
theorem tv_un : ∀ a0 : Nat, a0 < 2 → ∀ a1 : Nat, a1 < 2 → ∀ a2 : Nat, a2 < 2 → ∀ c0 : Nat, c0 < 2 → ∀ c1 : Nat, c1 < 2 → ∀ c2 : Nat, c2 < 2 →
    b3 3 a0 c0 + b3 3 a0 c1 + b3 3 a0 c2 + b3 3 a1 c0 + b3 3 a1 c1 - b3 3 a1 c2 + b3 3 a2 c0 - b3 3 a2 c1 - (b3 2 a0 c0 + b3 3 a0 c0) - 2 * (b3 1 a0 c0 + b3 3 a0 c0) - (b3 1 a0 c1 + b3 3 a0 c1) ≤ 0 := by decide
theorem Un.tv {P Q : Nat → Nat} {m : List (List Int)} (h : Un P Q m) : Go.Aw.tv m ≤ 0 := by
  have H : ∀ x y e, x < 3 → y < 3 → e < 4 → ent m (x * 3 + y) e = b3 e (P x) (Q y) := h.2.2
  rw [tv_ent, H 0 0 3 (by omega) (by omega) (by omega), H 0 1 3 (by omega) (by omega) (by omega), H 0 2 3 (by omega) (by omega) (by omega), H 1 0 3 (by omega) (by omega) (by omega), H 1 1 3 (by omega) (by omega) (by omega), H 1 2 3 (by omega) (by omega) (by omega),
    H 2 0 3 (by omega) (by omega) (by omega), H 2 1 3 (by omega) (by omega) (by omega), H 0 0 2 (by omega) (by omega) (by omega), H 0 0 1 (by omega) (by omega) (by omega), H 0 1 1 (by omega) (by omega) (by omega)]
  exact tv_un _ (h.1 0) _ (h.1 1) _ (h.1 2) _ (h.2.1 0) _ (h.2.1 1) _ (h.2.1 2)
theorem uB_un {i : Nat} (hi : i < 64) : ∃ P Q, Un P Q (uB 3 3 i) := by
  obtain ⟨_, q2⟩ := playsL_row (n := 3 + 3) (x := i) (by omega) (by rw [playsL_len]; exact hi)
  refine ⟨fun x => (((playsL (3 + 3)).getD i []).getD x 0).toNat, fun y => (((playsL (3 + 3)).getD i []).getD (3 + y) 0).toNat, fun x => by have := bits_mem q2 (i := x); dsimp only; omega, fun y => by have := bits_mem q2 (i := 3 + y); dsimp only; omega, fun x y e hx hy he => ?_⟩
  obtain ⟨a, b, ha, hb, ea, eb, h⟩ := uB_at (nx := 3) (ny := 3) (i := i) (by omega) (by omega) hi hx hy
  rw [h e he]
  simp only [ea, eb, Int.toNat_natCast]
theorem MixOf.trip {l : List Int} {z : Int} {m : List (List Int)} (h : MixOf 3 3 l z m) (s : Nat) (f g fl : List Int) (hf : f ∈ ords) (hg : g ∈ ords) : Go.Aw.tv (trm m s f g fl) ≤ 0 := by
  have hL : Lin (3 * 3) (fun m => Go.Aw.tv (trm m s f g fl)) := (((LinE.st s).og hf hg).fl fl).tv
  have := h.le hL (B := 0) (fun i hi => by
    obtain ⟨P, Q, hU⟩ := uB_un (i := i) hi
    obtain ⟨P', Q', h2⟩ := hU.st s
    exact ((h2.ag hf hg).fl fl).tv)
  have this : Go.Aw.tv (trm m s f g fl) ≤ z * 0 := this
  omega
theorem MixOf.local {nx ny : Nat} {l : List Int} {z : Int} {m : List (List Int)} (h : MixOf nx ny l z m) : L.lcV nx ny z m = true := by
  rw [L.lcV, h.good, Int.toNat_natCast, Int.toNat_natCast, Bool.true_and, locB_true]
  refine ⟨h.quiet, fun a b c d k h1 h2 h3 h4 h5 => h.sums a b c d k h1 h2 h3 h4 h5, fun e1 e2 s f g fl _ hf hg _ => ?_⟩
  subst e1 e2
  exact h.trip s f g fl hf hg
theorem MixOf.quietB {nx ny : Nat} {l : List Int} {z : Int} {m : List (List Int)} (h : MixOf nx ny l z m) : quietB nx ny z m = true := by
  rw [Go.Proofs.Ytkomndcehdneaaa.quietB, h.good, Int.toNat_natCast, Int.toNat_natCast, h.quiet]; rfl
end Go.Proofs.Ytkomndcehdneaaa
/- Worths of mixtures; the best plays among all. -/
namespace Go.Proofs.Ytkomndcehdneaaa
open Go.Aw
set_option maxRecDepth 100000
set_option maxHeartbeats 4000000

theorem prod_bd {a b : Int} (ha : -99 ≤ a ∧ a ≤ 99) (hb : 0 ≤ b ∧ b ≤ 1000) : -99000 ≤ a * b ∧ a * b ≤ 99000 := by
  have h1 : a * b ≤ 99 * b := Int.mul_le_mul_of_nonneg_right ha.2 hb.1
  have h2 : (-99) * b ≤ a * b := Int.mul_le_mul_of_nonneg_right ha.1 hb.1
  omega
theorem wRow_sm {f m : List (List Int)} (hf : ∀ q e, -99 ≤ ent f q e ∧ ent f q e ≤ 99) (hm : ∀ q e, 0 ≤ ent m q e ∧ ent m q e ≤ 1000) (i : Nat) (a : Int) (ha : -10000000 ≤ a ∧ a ≤ 10000000) : ∀ n, n ≤ 4 → wRow f m i a n = a + sm (fun k => ent f i k * ent m i k) n
  | 0, _ => by show a = a + 0; omega
  | n + 1, hn => by
    have hb := sm_bd (b := 99000) (n := n) (f := fun k => ent f i k * ent m i k) (fun k _ => prod_bd (hf i k) (hm i k))
    have ht := prod_bd (hf i n) (hm i n)
    have e : wRow f m i a (n + 1) = W (wRow f m i a n + W (ent f i n * ent m i n)) := rfl
    rw [e, wRow_sm hf hm i a ha n (by omega), sm, show W (ent f i n * ent m i n) = ent f i n * ent m i n from w64 (by omega) (by omega)]
    rw [show W (a + sm (fun k => ent f i k * ent m i k) n + ent f i n * ent m i n) = a + sm (fun k => ent f i k * ent m i k) n + ent f i n * ent m i n from w64 (by omega) (by omega)]
    omega
theorem wTo_sm {f m : List (List Int)} (hf : ∀ q e, -99 ≤ ent f q e ∧ ent f q e ≤ 99) (hm : ∀ q e, 0 ≤ ent m q e ∧ ent m q e ≤ 1000) : ∀ n, n ≤ 9 → wTo f m n = sm (fun q => sm (fun k => ent f q k * ent m q k) 4) n ∧ -396000 * (n : Int) ≤ wTo f m n ∧ wTo f m n ≤ 396000 * n
  | 0, _ => ⟨rfl, Int.le_refl 0, Int.le_refl 0⟩
  | n + 1, hn => by
    obtain ⟨h1, h2, h3⟩ := wTo_sm hf hm n (by omega)
    have e : wTo f m (n + 1) = wRow f m n (wTo f m n) 4 := rfl
    have hb := sm_bd (b := 99000) (n := 4) (f := fun k => ent f n k * ent m n k) (fun k _ => prod_bd (hf n k) (hm n k))
    rw [e, wRow_sm hf hm n _ (by omega) 4 (Nat.le_refl 4)]
    refine ⟨?_, by omega, by omega⟩
    rw [h1]; rfl
theorem ent_bdP {f : List (List Int)} {a b : Int} (ha : a ≤ 0) (hb : 0 ≤ b) (h : ∀ r, r ∈ f → ∀ v, v ∈ r → a ≤ v ∧ v ≤ b) (q e : Nat) : a ≤ ent f q e ∧ ent f q e ≤ b := by
  unfold ent
  by_cases hq : q < f.length
  · by_cases he : e < (f.getD q []).length
    · exact h _ (getD_mem hq) _ (getD_mem he)
    · rw [getD_outP he]; omega
  · rw [getD_outP (l := f) hq, getD_outP (by simp)]; omega
theorem uB_len (nx ny i : Nat) : (uB nx ny i).length = nx * ny := boxRows_len _ _ _
theorem uB_bd (nx ny i q e : Nat) : 0 ≤ ent (uB nx ny i) q e ∧ ent (uB nx ny i) q e ≤ 1000 := by
  refine ent_bdP (by omega) (by omega) (fun r hr v hv => ?_) q e
  rw [uB, pgM, boxRows, List.mem_flatMap] at hr
  obtain ⟨i, _, hr⟩ := hr
  obtain ⟨k, _, rfl⟩ := List.mem_map.1 hr
  obtain ⟨p, _, rfl⟩ := List.mem_map.1 hv
  unfold pgN; split <;> omega
theorem fn_bdP {x y : Int} {f : List (List Int)} (h : fnG x y f = true) (q e : Nat) : -99 ≤ ent f q e ∧ ent f q e ≤ 99 := by
  obtain ⟨a, b, _, _, _, _, _, _, _, _, _, h9⟩ := fnG_spec h
  exact ent_bdP (by omega) (by omega) h9 q e
theorem pwI_eq {nx ny : Nat} {f : List (List Int)} (hx : nx ≤ 3) (hy : ny ≤ 3) {i : Nat} (hi : i < 2 ^ (nx + ny)) : worthF f (uB nx ny i) = pwI f nx ny i := by
  obtain ⟨_, q2⟩ := playsL_row (n := nx + ny) (x := i) (by omega) (by rw [playsL_len]; exact hi)
  exact pw_worth q2
theorem pwI_bd {nx ny : Nat} {f : List (List Int)} (hf : fnG nx ny f = true) (hx : nx ≤ 3) (hy : ny ≤ 3) {i : Nat} (hi : i < 2 ^ (nx + ny)) : -3564000 ≤ pwI f nx ny i ∧ pwI f nx ny i ≤ 3564000 := by
  have hn : nx * ny ≤ 3 * 3 := Nat.mul_le_mul hx hy
  have h := wTo_sm (fn_bdP hf) (uB_bd nx ny i) (uB nx ny i).length (by rw [uB_len]; omega)
  rw [← pwI_eq hx hy hi, worthF]
  rw [uB_len] at h ⊢
  omega
theorem lvF_bd {nx ny : Nat} {f : List (List Int)} (hf : fnG nx ny f = true) (hx : nx ≤ 3) (hy : ny ≤ 3) : -3564000 ≤ lvF f nx ny ∧ lvF f nx ny ≤ 3564000 := by
  obtain ⟨i, hi, e⟩ := lvN_own (pwI f nx ny) (2 ^ (nx + ny)) (Nat.two_pow_pos _)
  rw [lvF, e]
  exact pwI_bd hf hx hy hi
theorem MixOf.worth {nx ny : Nat} {l : List Int} {z : Int} {m : List (List Int)} (h : MixOf nx ny l z m) {f : List (List Int)} (hf : fnG nx ny f = true) : worthF f m ≤ z * lvF f nx ny := by
  have hx := h.x3
  have hy := h.y3
  have hn : nx * ny ≤ 3 * 3 := Nat.mul_le_mul hx hy
  obtain ⟨na, nb, ea, eb, _, _, _, _, z1, z2, g7, _, g9⟩ := goodB_spec h.good
  have hl : m.length = nx * ny := by rw [g7]; congr 1 <;> omega
  have hb : ∀ q e, 0 ≤ ent m q e ∧ ent m q e ≤ 1000 := ent_bdP (by omega) (by omega) fun r hr v hv => by have := (g9 r hr).2.1 v hv; omega
  have e1 : worthF f m = lf (ent f) (nx * ny) m := by
    rw [worthF, hl]; exact (wTo_sm (fn_bdP hf) hb (nx * ny) (by omega)).1
  rw [e1]
  refine h.le (F := fun m => lf (ent f) (nx * ny) m) ⟨_, fun _ => rfl⟩ fun i hi => ?_
  have e2 : lf (ent f) (nx * ny) (uB nx ny i) = pwI f nx ny i := by
    rw [← pwI_eq hx hy hi, worthF, uB_len]; exact (wTo_sm (fn_bdP hf) (uB_bd nx ny i) (nx * ny) (by omega)).1.symm
  show lf (ent f) (nx * ny) (uB nx ny i) ≤ _
  rw [e2]
  exact lvN_ge _ _ i hi
/-- the best ones found so far stand ahead in the list of all best ones -/
theorem bp_pre (f : List (List Int)) (nx ny i : Nat) : ∀ n, i ≤ n → ∃ t, bpTo f nx ny n = bpTo f nx ny i ++ t
  | 0, h => by obtain rfl : i = 0 := by omega
               exact ⟨[], by simp⟩
  | n + 1, h => by
    by_cases e : i = n + 1
    · subst e; exact ⟨[], by simp⟩
    · obtain ⟨t, ht⟩ := bp_pre f nx ny i n (by omega)
      by_cases c : pwI f nx ny n = lvF f nx ny
      · have e1 : bpTo f nx ny (n + 1) = bpTo f nx ny n ++ [(playsL (nx + ny)).getD n []] := by rw [bpTo, if_pos c]
        exact ⟨t ++ [(playsL (nx + ny)).getD n []], by rw [e1, ht, List.append_assoc]⟩
      · have e1 : bpTo f nx ny (n + 1) = bpTo f nx ny n := by rw [bpTo, if_neg c]
        exact ⟨t, by rw [e1, ht]⟩
theorem bp_at {f : List (List Int)} {nx ny i n : Nat} (hi : i < n) (h : pwI f nx ny i = lvF f nx ny) : (bpTo f nx ny i).length < (bpTo f nx ny n).length ∧ (bpTo f nx ny n).getD (bpTo f nx ny i).length [] = (playsL (nx + ny)).getD i [] := by
  obtain ⟨t, ht⟩ := bp_pre f nx ny (i + 1) n hi
  have e : bpTo f nx ny (i + 1) = bpTo f nx ny i ++ [(playsL (nx + ny)).getD i []] := by rw [bpTo, if_pos h]
  rw [ht, e]
  refine ⟨by simp, ?_⟩
  rw [List.append_assoc, List.getD_eq_getElem?_getD, List.getElem?_append_right (Nat.le_refl _), Nat.sub_self]
  rfl
theorem bp_pos {f : List (List Int)} {nx ny : Nat} : 0 < (bpTo f nx ny (2 ^ (nx + ny))).length := by
  obtain ⟨i, hi, e⟩ := lvN_own (pwI f nx ny) (2 ^ (nx + ny)) (Nat.two_pow_pos _)
  have := (bp_at (f := f) (nx := nx) (ny := ny) hi (by rw [lvF, e])).1
  omega
end Go.Proofs.Ytkomndcehdneaaa
/- Calls that write a variable of their caller which also holds what is read-only. -/
namespace Go.Aw
open Go.RowKit

def tcells : List AVal → Bool
  | [] => true
  | .c _ :: r => tcells r
  | .t _ :: r => tcells r
  | _ => false

def tRow : ARow → Bool
  | .cells _ (x :: l) => tcells (x :: l)
  | _ => false

/-- plain values, what is read-only, and the place of the variable -/
def pargs : List AVal → List AVal → Bool
  | [], [] => true
  | .c _ :: l, .c _ :: r => pargs l r
  | .ptr _ _ :: l, .ptr 0 0 :: r => pargs l r
  | .t _ :: l, .t _ :: r => pargs l r
  | _, _ => false

mutual
/-- a result told of what is read-only: rows of the call's own (but the variable, key 0) are given away as read-only -/
def clv (hp : List (Nat × ARow)) : AVal → Option AVal
  | .c v => some (.c v)
  | .t t => some (.t t)
  | .own k => match k with
    | 0 => none
    | k + 1 => match look hp (k + 1) with
      | some r => match closeRow r with
        | some t => some (.t t)
        | none => none
      | none => none
  | .ag l => match clvs hp l with
    | some l' => some (.ag l')
    | none => none
  | .tu l => match clvs hp l with
    | some l' => some (.tu l')
    | none => none
  | _ => none
def clvs (hp : List (Nat × ARow)) : List AVal → Option (List AVal)
  | [] => some []
  | a :: r => match clv hp a with
    | none => none
    | some b => match clvs hp r with
      | none => none
      | some r' => some (b :: r')
end

mutual
def shut : AVal → Bool
  | .c _ => true
  | .t _ => true
  | .ag l => shuts l
  | .tu l => shuts l
  | _ => false
def shuts : List AVal → Bool
  | [] => true
  | a :: r => shut a && shuts r
end

def resx (l : List AVal) : AVal :=
  match l with
  | [x] => x
  | l => .tu l

section
variable {P : Program} {Γ : Tys} {w0 : Base} {w w' : World} {ob : Nat → Prop} {st : St} {a : Act} {η : Env}

mutual
theorem shut_rep {bad bad' : Nat → Prop} {hp hp' : List (Nat × ARow)} {nx nx' : Nat} {η η' : Env} (hk : Keeps w bad w' bad') : ∀ (x : AVal) {v : Value}, shut x = true → VRep w bad hp nx η x v → VRep w' bad' hp' nx' η' x v
  | .c _, _, _, hv => hv
  | .t _, _, _, hv => TRep.keeps hk hv
  | .ag l, _, h, ⟨cs, e, hv⟩ => ⟨cs, e, shuts_rep hk l (by simpa [shut] using h) hv⟩
  | .tu l, _, h, ⟨cs, e, hv⟩ => ⟨cs, e, shuts_rep hk l (by simpa [shut] using h) hv⟩
  | .un, _, h, _ => by simp [shut] at h
  | .own _, _, h, _ => by simp [shut] at h
  | .sub _ _, _, h, _ => by simp [shut] at h
  | .ptr _ _, _, h, _ => by simp [shut] at h
  | .subp _ _ _, _, h, _ => by simp [shut] at h
  | .adr _ _, _, h, _ => by simp [shut] at h
  | .rp _ _, _, h, _ => by simp [shut] at h
  | .clo _ _, _, h, _ => by simp [shut] at h
  | .knot _ _ _, _, h, _ => by simp [shut] at h
  | .nul, _, h, _ => by simp [shut] at h
theorem shuts_rep {bad bad' : Nat → Prop} {hp hp' : List (Nat × ARow)} {nx nx' : Nat} {η η' : Env} (hk : Keeps w bad w' bad') : ∀ (l : List AVal) {vs : List Value}, shuts l = true → VReps w bad hp nx η l vs → VReps w' bad' hp' nx' η' l vs
  | [], [], _, _ => trivial
  | x :: l, v :: vs, h, hv => by
    simp only [shuts, Bool.and_eq_true] at h
    exact ⟨shut_rep hk x h.1 hv.1, shuts_rep hk l h.2 hv.2⟩
  | [], _ :: _, _, h => h.elim
  | _ :: _, [], _, h => h.elim
end

mutual
theorem clv_shut {hp : List (Nat × ARow)} : ∀ (x : AVal) {y : AVal}, clv hp x = some y → shut y = true ∧ vw hp [(0, .row 0)] 1 x y
  | .c v, y, h => by simp only [clv, Option.some.injEq] at h; subst h; exact ⟨rfl, rfl⟩
  | .t t, y, h => by simp only [clv, Option.some.injEq] at h; subst h; exact ⟨rfl, rfl⟩
  | .own 0, y, h => by simp [clv] at h
  | .own (k + 1), y, h => by
    simp only [clv] at h
    split at h
    · rename_i r hr
      split at h
      · rename_i t ht
        simp only [Option.some.injEq] at h
        subst h
        refine ⟨rfl, ?_⟩
        show keyIn (k + 1) [(0, Org.row 0)] = false ∧ (match look hp (k + 1) with | some r => closeRow r = some t | none => False)
        rw [hr]
        exact ⟨rfl, ht⟩
      · cases h
    · cases h
  | .ag l, y, h => by
    simp only [clv] at h
    split at h
    · rename_i l' hl
      simp only [Option.some.injEq] at h
      subst h
      obtain ⟨h1, h2⟩ := clvs_shut l hl
      exact ⟨by simpa [shut] using h1, h2⟩
    · cases h
  | .tu l, y, h => by
    simp only [clv] at h
    split at h
    · rename_i l' hl
      simp only [Option.some.injEq] at h
      subst h
      obtain ⟨h1, h2⟩ := clvs_shut l hl
      exact ⟨by simpa [shut] using h1, h2⟩
    · cases h
  | .un, _, h => by simp [clv] at h
  | .sub _ _, _, h => by simp [clv] at h
  | .ptr _ _, _, h => by simp [clv] at h
  | .subp _ _ _, _, h => by simp [clv] at h
  | .adr _ _, _, h => by simp [clv] at h
  | .rp _ _, _, h => by simp [clv] at h
  | .clo _ _, _, h => by simp [clv] at h
  | .knot _ _ _, _, h => by simp [clv] at h
  | .nul, _, h => by simp [clv] at h
theorem clvs_shut {hp : List (Nat × ARow)} : ∀ (l : List AVal) {l' : List AVal}, clvs hp l = some l' → shuts l' = true ∧ vws hp [(0, .row 0)] 1 l l'
  | [], l', h => by simp only [clvs, Option.some.injEq] at h; subst h; exact ⟨rfl, trivial⟩
  | x :: l, l', h => by
    simp only [clvs] at h
    split at h
    · cases h
    · rename_i y hy
      split at h
      · cases h
      · rename_i r' hr
        simp only [Option.some.injEq] at h
        subst h
        obtain ⟨a1, a2⟩ := clv_shut x hy
        obtain ⟨b1, b2⟩ := clvs_shut l hr
        exact ⟨by simp [shuts, a1, b1], a2, b2⟩
end

theorem tcells_vws {hp : List (Nat × ARow)} {R : List (Nat × Org)} {nx : Nat} : ∀ {l : List AVal}, tcells l = true → vws hp R nx l l
  | [], _ => trivial
  | .c _ :: l, h => ⟨rfl, tcells_vws (l := l) (by simpa [tcells] using h)⟩
  | .t _ :: l, h => ⟨rfl, tcells_vws (l := l) (by simpa [tcells] using h)⟩
  | .un :: _, h => by simp [tcells] at h
  | .ag _ :: _, h => by simp [tcells] at h
  | .tu _ :: _, h => by simp [tcells] at h
  | .own _ :: _, h => by simp [tcells] at h
  | .sub _ _ :: _, h => by simp [tcells] at h
  | .ptr _ _ :: _, h => by simp [tcells] at h
  | .subp _ _ _ :: _, h => by simp [tcells] at h
  | .adr _ _ :: _, h => by simp [tcells] at h
  | .rp _ _ :: _, h => by simp [tcells] at h
  | .clo _ _ :: _, h => by simp [tcells] at h
  | .knot _ _ _ :: _, h => by simp [tcells] at h
  | .nul :: _, h => by simp [tcells] at h

theorem resx_rep {bad : Nat → Prop} {hp : List (Nat × ARow)} {nx : Nat} {η : Env} : ∀ {l : List AVal} {us : List Value}, VReps w bad hp nx η l us → VRep w bad hp nx η (resx l) (if hh : us.toArray.size = 1 then us.toArray[0] else .tuple us.toArray)
  | [x], [u], h => by rw [dif_pos (by rfl)]; exact h.1
  | [], [], h => by rw [dif_neg (by simp)]; exact ⟨_, rfl, h⟩
  | x :: y :: l, u :: v :: us, h => by rw [dif_neg (by simp)]; exact ⟨_, rfl, h⟩
  | [_], [], h => h.elim
  | [_], _ :: _ :: _, h => h.2.elim
  | [], _ :: _, h => h.elim
  | _ :: _ :: _, [], h => h.elim
  | _ :: _ :: _, [_], h => h.2.elim

theorem tcells_rep {bad bad' : Nat → Prop} {hp hp' : List (Nat × ARow)} {nx nx' : Nat} {η η' : Env} (hk : Keeps w bad w bad') : ∀ {l : List AVal} {vs : List Value}, tcells l = true → VReps w bad hp nx η l vs → VReps w bad' hp' nx' η' l vs
  | [], [], _, _ => trivial
  | .c _ :: l, _ :: vs, h, hv => ⟨hv.1, tcells_rep hk (l := l) (by simpa [tcells] using h) hv.2⟩
  | .t _ :: l, _ :: vs, h, hv => ⟨TRep.keeps hk hv.1, tcells_rep hk (l := l) (by simpa [tcells] using h) hv.2⟩
  | [], _ :: _, _, h => h.elim
  | .c _ :: _, [], _, h => h.elim
  | .t _ :: _, [], _, h => h.elim
  | .un :: _, _, h, _ => by simp [tcells] at h
  | .ag _ :: _, _, h, _ => by simp [tcells] at h
  | .tu _ :: _, _, h, _ => by simp [tcells] at h
  | .own _ :: _, _, h, _ => by simp [tcells] at h
  | .sub _ _ :: _, _, h, _ => by simp [tcells] at h
  | .ptr _ _ :: _, _, h, _ => by simp [tcells] at h
  | .subp _ _ _ :: _, _, h, _ => by simp [tcells] at h
  | .adr _ _ :: _, _, h, _ => by simp [tcells] at h
  | .rp _ _ :: _, _, h, _ => by simp [tcells] at h
  | .clo _ _ :: _, _, h, _ => by simp [tcells] at h
  | .knot _ _ _ :: _, _, h, _ => by simp [tcells] at h
  | .nul :: _, _, h, _ => by simp [tcells] at h

theorem pargs_rep {badS bad bad' : Nat → Prop} {hpS hp : List (Nat × ARow)} {nxS nx nx' : Nat} {ηS η1 : Env} {R : List (Nat × Org)} (hk : Keeps w badS w bad') : ∀ (l l0 : List AVal) (vs : List Value), pargs l l0 = true → vws hpS R nx' l l0 →
    VReps w badS hpS nxS ηS l vs → VReps w bad hp nx η1 l0 vs → VReps w bad' hp nx η1 l0 vs
  | l, l0, vs, h, hv, hs, h0 => by
    unfold pargs at h
    split at h
    · cases vs with
      | nil => trivial
      | cons => exact h0.elim
    · cases vs with
      | nil => exact h0.elim
      | cons v vs => exact ⟨h0.1, pargs_rep hk _ _ vs h hv.2 hs.2 h0.2⟩
    · cases vs with
      | nil => exact h0.elim
      | cons v vs => exact ⟨h0.1, pargs_rep hk _ _ vs h hv.2 hs.2 h0.2⟩
    · rename_i t l t' r
      cases vs with
      | nil => exact h0.elim
      | cons v vs =>
        have e : t = t' := hv.1
        subst e
        exact ⟨TRep.keeps hk hs.1, pargs_rep hk _ _ vs h hv.2 hs.2 h0.2⟩
    · cases h
termination_by l => l.length

/-- A FUNCTION THAT WRITES A VARIABLE OF ITS CALLER (key 0), in which read-only slices may stand: it hands back a plain value -/
def TSpec (P : Program) (f : FuncId) (r0 : ARow) (args : List AVal) (post : AVal → ARow → Prop) : Prop := FOk P f ∧
  ∀ (w : World) (B : Nat) (ob : Nat → Prop) (η : Env) (vs : List Value), B ≤ w.heap.size → (∀ b, ob b → b < w.heap.size) → (∀ b, b ∈ bsOf η 0 r0 → ¬ ob b) →
    HRep w B ob [(0, r0)] 1 η → VReps w (badOf ob [(0, r0)] η) [(0, r0)] 1 η args vs →
    Calls P f vs.toArray w fun e w' => ∃ v x r' η', e = .returned v ∧ VRep w' (badOf ob [(0, r')] η') [] 0 η0 x v ∧ shut x = true ∧ post x r' ∧ Below B w w' ∧
      (∀ b, b < w.heap.size → b ∉ bsOf η 0 r0 → w'.heap[b]? = w.heap[b]?) ∧ tRow r' = true ∧ RowRep w' B (badOf ob [(0, r')] η') [(0, r')] 1 η' 0 r' ∧ (bsOf η' 0 r').Nodup ∧
      (∀ b, b ∈ bsOf η' 0 r' → b ∈ bsOf η 0 r0 ∨ w.heap.size ≤ b) ∧ r'.kind = r0.kind ∧ η'.val 0 = η.val 0 ∧ (η'.cel 0).length = (η.cel 0).length

def tfin (sz : Nat) (r0 : ARow) (post : AVal → ARow → Prop) (st : St) (l : List AVal) : Prop :=
  match clv st.hp (resx l) with
  | some x => match look st.sl sz with
    | some g => match look st.hp 0 with
      | some r' => match Nat.beq r'.kind r0.kind && isGhost r' g && tRow r' && sameLen r0 r' && Nat.beq st.sz sz with
        | true => post x r'
        | false => False
      | none => False
    | none => False
  | none => False

def tend (Γ : Tys) (rs : List ResultVar) (sz : Nat) (r0 : ARow) (post : AVal → ARow → Prop) : Exit → St → Prop
  | .ret, st => ares Γ st rs (tfin sz r0 post st)
  | .normal, st => ares Γ st rs (tfin sz r0 post st)
  | _, _ => False

theorem tspec (hΓ : TysOk P Γ) (hm : P.follows .mixedOrders = true) {f : FuncId} {fn : Func} {c : Code} {r0 : ARow} {args : List AVal} {post : AVal → ARow → Prop} (hf : P.funcs[f]? = some fn) (hb : fn.body = some c)
    (hname : (fn.name == "runtime.NumGoroutine") = false) (hn : Nat.ble args.length fn.ntmps = true) (hg : tRow r0 = true)
    (h : acode P Γ c ⟨fn.ntmps, (fn.ntmps, ghostOf r0) :: initSl 0 args, [(0, r0)], 1⟩ (tend Γ fn.results.toList fn.ntmps r0 post)) : TSpec P f r0 args post := by
  refine ⟨⟨fn, hf, hname, by rw [hb]; rfl⟩, fun w B ob η vs hB hobl hfree hh hvs => ?_⟩
  refine calls_of_wp hf hb ?_
  have hle := Nat.le_of_ble_eq_true hn
  have hlen := VReps.length hvs
  have hr0 : look [(0, r0)] 0 = some r0 := rfl
  have hrow0 := hh.row 0 r0 hr0
  have hone : ∀ k r, look [(0, r0)] k = some r → k = 0 ∧ r = r0 := fun k r hk => by
    rw [look_cons] at hk
    split at hk
    · rename_i h0; exact ⟨h0.symm, (Option.some.inj hk).symm⟩
    · cases hk
  let γ : Nat → Value := fun i => if i = fn.ntmps then η.val 0 else undef
  let W0 : Base := ⟨w, B, fun b => b ∈ bsOf η 0 r0, γ⟩
  have hs : SRep W0 ob ⟨fn.ntmps, (fn.ntmps, ghostOf r0) :: initSl 0 args, [(0, r0)], 1⟩ { tmps := vs.toArray ++ Array.replicate (fn.ntmps - vs.toArray.size) undef, defers := [] } w η := by
    have hsz : (vs.toArray ++ Array.replicate (fn.ntmps - vs.toArray.size) undef).size = fn.ntmps := by simp; omega
    refine ⟨rfl, hsz, Below.refl _ _, ⟨hB, hobl, hfree⟩, fun _ _ _ => rfl, fun b ⟨k, r, hk, hb⟩ => ?_, hh, fun i x hi => ?_⟩
    · obtain ⟨rfl, rfl⟩ := hone k r hk; exact .inl hb
    · simp only at hi
      rw [look_cons] at hi
      split at hi
      · rename_i hni
        subst hni
        have hx := Option.some.inj hi
        subst hx
        have hget : (vs.toArray ++ Array.replicate (fn.ntmps - vs.toArray.size) undef).getD fn.ntmps (W0.γ fn.ntmps) = η.val 0 := by
          have : W0.γ fn.ntmps = η.val 0 := if_pos rfl
          rw [Array.getD_eq_getD_getElem?, Array.getElem?_eq_none (by rw [hsz]; exact Nat.le_refl _), this]; rfl
        rw [hget]
        match r0, hg, hrow0, hone with
        | .ints .., hg, _, _ => simp [tRow] at hg
        | .rows .., hg, _, _ => simp [tRow] at hg
        | .recs .., hg, _, _ => simp [tRow] at hg
        | .cells _ [], hg, _, _ => simp [tRow] at hg
        | .cells _ (y :: l), _, hrow0, _ =>
          obtain ⟨b, h1, _, _, h4⟩ := hrow0
          have := VReps.length h4
          exact ⟨Nat.one_pos, fun r _ => ⟨by rw [← this]; simp, b, by rw [h1]; rfl, h1⟩⟩
      · rename_i hni
        obtain ⟨v, _, h2, h3⟩ := init_look' hvs i x hi
        simp only [Nat.sub_zero] at h2
        have hlt : i < vs.length := (List.getElem?_eq_some_iff.1 h2).1
        have : (vs.toArray ++ Array.replicate (fn.ntmps - vs.toArray.size) undef).getD i (W0.γ i) = v := by
          rw [Array.getD_eq_getD_getElem?, Array.getElem?_append_left (by simpa using hlt)]
          simp [h2]
        rw [this]
        exact h3
  refine wp_mono (acode_sound (w0 := W0) hΓ hm c _ _ _ w h ⟨η, hs⟩) (fun e a' w' hl => ?_)
  obtain ⟨st', hk, η', hs'⟩ := hl
  have fin : ares Γ st' fn.results.toList (tfin fn.ntmps r0 post st') → ∃ v, (results fn a'.tmps).run P w' = .ok v w' ∧ ∃ v' x r' η', Ending.returned v = .returned v' ∧ VRep w' (badOf ob [(0, r')] η') [] 0 η0 x v' ∧ shut x = true ∧ post x r' ∧ Below B w w' ∧
      (∀ b, b < w.heap.size → b ∉ bsOf η 0 r0 → w'.heap[b]? = w.heap[b]?) ∧ tRow r' = true ∧ RowRep w' B (badOf ob [(0, r')] η') [(0, r')] 1 η' 0 r' ∧ (bsOf η' 0 r').Nodup ∧
      (∀ b, b ∈ bsOf η' 0 r' → b ∈ bsOf η 0 r0 ∨ w.heap.size ≤ b) ∧ r'.kind = r0.kind ∧ η'.val 0 = η.val 0 ∧ (η'.cel 0).length = (η.cel 0).length := fun hk => by
    obtain ⟨xs, us, h1, h2, h3⟩ := ares_sound hΓ hs' hk
    have hres := results_run h3
    unfold tfin at h1
    split at h1
    case h_2 => exact h1.elim
    case h_1 x hx =>
      obtain ⟨hsh, hvw⟩ := clv_shut (resx xs) hx
      have hres0 := resx_rep h2
      split at h1
      case h_2 => exact h1.elim
      case h_1 g hgl =>
        split at h1
        case h_2 => exact h1.elim
        case h_1 r' hr' =>
          split at h1
          case h_2 => exact h1.elim
          case h_1 hc =>
            simp only [Bool.and_eq_true] at hc
            obtain ⟨⟨⟨⟨c1, c2⟩, c3⟩, c4⟩, c5⟩ := hc
            have hsz' := Nat.eq_of_beq_eq_true c5
            have hkind := Nat.eq_of_beq_eq_true c1
            · have hrow' := hs'.heap.row 0 r' hr'
              have hkeep : Keeps w' (badOf ob st'.hp η') w' (badOf ob [(0, r')] η') := fun b o x hb hc => by
                refine ⟨?_, hc⟩
                rintro (h1 | ⟨j, r1, hj, hm⟩)
                · exact hb (.inl h1)
                · rw [look_cons] at hj
                  split at hj
                  · rename_i h0
                    subst h0
                    obtain rfl := Option.some.inj hj
                    exact hb (.inr ⟨0, _, hr', hm⟩)
                  · cases hj
              have hfrm : ∀ b, b < w.heap.size → b ∉ bsOf η 0 r0 → w'.heap[b]? = w.heap[b]? := fun b hb hnb => hs'.frame b hb hnb
              have hsrc : ∀ b, b ∈ bsOf η' 0 r' → b ∈ bsOf η 0 r0 ∨ w.heap.size ≤ b := fun b hb => hs'.src b ⟨0, r', hr', hb⟩
              have hnod := hs'.heap.nodup 0 r' hr'
              match r0, r', g, hg, c2, c3, c4, hrow0, hrow', hr', hgl, hkeep, hkind, h1, hfrm, hsrc, hnod with
              | .cells _ (y0 :: l0), .cells e (y :: l), .ptr 0 0, _, _, c3, c4, hrow0, hrow', hr', hgl, hkeep, hkind, h1, hfrm, hsrc, hnod =>
                obtain ⟨b0, p1, p2, p3, p4⟩ := hrow0
                obtain ⟨b1, q1, q2, q3, q4⟩ := hrow'
                have hslot := hs'.slot _ _ hgl
                have hget : a'.tmps.getD fn.ntmps (W0.γ fn.ntmps) = η.val 0 := by
                  have e1 : W0.γ fn.ntmps = η.val 0 := if_pos rfl
                  rw [Array.getD_eq_getD_getElem?, Array.getElem?_eq_none (by rw [hs'.size, hsz']; exact Nat.le_refl _), e1]; rfl
                rw [hget] at hslot
                have hval : η'.val 0 = η.val 0 := by
                  obtain ⟨_, b', e2, e3⟩ := hslot.2 _ hr'
                  rw [q1, ptr_blk] at e2
                  simp only [List.cons.injEq, and_true] at e2
                  rw [q1, e3, e2]
                have hlen' : (η'.cel 0).length = (η.cel 0).length := by
                  have l0' := VReps.length p4
                  have l1' := VReps.length q4
                  have := Nat.eq_of_beq_eq_true c4
                  omega
                have hrv : rowsVw st'.hp [(0, Org.row 0)] 1 [(0, .cells e (y :: l))] := ⟨rfl, by
                  show rowVw st'.hp [(0, Org.row 0)] 1 (.row 0) _
                  simp only [rowVw, hr']
                  exact ⟨trivial, tcells_vws c3⟩, trivial⟩
                have hvr := vw_sound hs'.heap (fun b hb => hs'.free hb) hrv (resx xs) x hvw hres0
                have hkk : Keeps w' (badOf ob [(0, .cells e (y :: l))] (ηV st'.hp η' [(0, Org.row 0)])) w' (badOf ob [(0, .cells e (y :: l))] η') := fun b o z hb hc => by
                  refine ⟨?_, hc⟩
                  rintro (k1 | ⟨j, r1, hj, hm⟩)
                  · exact hb (.inl k1)
                  · rw [look_cons] at hj
                    split at hj
                    · rename_i h0
                      subst h0
                      obtain rfl := Option.some.inj hj
                      exact hb (.inr ⟨0, _, rfl, hm⟩)
                    · cases hj
                have hvr' := shut_rep (hp' := []) (nx' := 0) (η' := η0) hkk x hsh hvr
                refine ⟨_, hres, _, x, .cells e (y :: l), η', rfl, hvr', hsh, h1, hs'.below, hfrm, c3, ⟨b1, q1, q2, q3, tcells_rep hkeep c3 q4⟩, hnod, hsrc, hkind, hval, hlen'⟩
  cases e with
  | ret => exact ⟨hs'.defers, fin hk⟩
  | normal => exact ⟨hs'.defers, fin hk⟩
  | _ => exact hk.elim

/-- a variable's cells have become others -/
theorem SRep.mutT (h : SRep w0 ob st a w η) {k : Nat} {r r' : ARow} {cs' : List Value} (hr : look st.hp k = some r) (hkind : r'.kind = r.kind) (hlen : (η.cel k).length ≤ cs'.length)
    (hw : ∀ b, b < w.heap.size → b ∉ bsOf η k r → w'.heap[b]? = w.heap[b]?) (hB : Below w0.B w w')
    (hnd : (bsOf (η.upd k (η.val k) cs') k r').Nodup) (hfr : ∀ b, b ∈ bsOf (η.upd k (η.val k) cs') k r' → b ∈ bsOf η k r ∨ w.heap.size ≤ b)
    (hrow : RowRep w' w0.B (badOf ob ((st.killSub k).upd k r').hp (η.upd k (η.val k) cs')) ((st.killSub k).upd k r').hp st.nx (η.upd k (η.val k) cs') k r') :
    SRep w0 ob ((st.killSub k).upd k r') a w' (η.upd k (η.val k) cs') := by
  have hoth : ∀ j r1, j ≠ k → look ((st.killSub k).upd k r').hp j = some r1 → ∃ r, look st.hp j = some r ∧ r1 = r.flt (fun _ => true) (ne k) := fun j r1 hj h1 => by
    simp only [St.upd, St.killSub, look_upd, if_neg (Ne.symm hj), look_fltH] at h1
    obtain ⟨r, h2, rfl⟩ := Option.map_eq_some_iff.1 h1
    exact ⟨r, h2, rfl⟩
  have hk' : look ((st.killSub k).upd k r').hp k = some r' := by simp only [St.upd, look_upd, if_true]
  have hok : ∀ j, j < st.nx → OwnOk st.hp η ((st.killSub k).upd k r').hp (η.upd k (η.val k) cs') j := fun j _ => by
    by_cases hjk : j = k
    · subst hjk
      exact ⟨fun r1 h1 => by rw [hk'] at h1; obtain rfl := Option.some.inj h1; exact ⟨r, hr, hkind.symm, upd_val _ _ _ _, by rw [upd_cel]; exact hlen⟩⟩
    · exact OwnOk.of (fun r1 h1 => by obtain ⟨r, h2, rfl⟩ := hoth j r1 hjk h1; exact ⟨r, h2, (kind_flt _ _ r).symm⟩) (upd_ne _ _ _ _ j hjk).1 (upd_ne _ _ _ _ j hjk).2
  have hsk : ∀ j, j < st.nx → ne k j = true → SubOk st.hp η ((st.killSub k).upd k r').hp (η.upd k (η.val k) cs') j := fun j _ hj => by
    have hjk := (ne_spec k j).1 hj
    exact SubOk.of (fun r1 h1 => by obtain ⟨r, h2, rfl⟩ := hoth j r1 hjk h1; exact ⟨r, h2, (kind_flt _ _ r).symm⟩) (upd_ne _ _ _ _ j hjk).2
  obtain ⟨hh, hkp⟩ := HRep.step (k := k) (hp' := ((st.killSub k).upd k r').hp) (nx' := st.nx) (η' := η.upd k (η.val k) cs') (w' := w') h.heap (fun _ => true) (ne k) r' (h.heap.lt k r hr) (Nat.le_refl _)
    (fun j r1 hj h1 => hoth j r1 hj h1) hk' (fun j hj => upd_ne _ _ _ _ j hj)
    (fun b hb hn => hw b hb (hn r hr)) (fun j hj _ => hok j hj) hsk hnd
    (fun b hb => (hfr b hb).imp (fun h1 => ⟨k, r, hr, h1, .inl rfl⟩) id) (fun _ => hrow)
  exact h.heapStep (fun _ => true) (ne k) hB hh hkp (Nat.le_refl _) (fun j hj _ => hok j hj) hsk

theorem tmut_core {f : FuncId} {args args0 : List AVal} {r0 : ARow} {K : AVal → St → Prop} {post : AVal → ARow → Prop} (k : Nat) (hs : TSpec P f r0 args0 post)
    (hk : ∀ x r', post x r' → K x ((st.killSub k).upd k r')) (hlk : look st.hp k = some r0) (hv : vws st.hp [(0, .row k)] 1 args args0) (hr : rowVw st.hp [(0, .row k)] 1 (.row k) r0)
    (hp : pargs args args0 = true) (ht : tRow r0 = true) (h : SRep w0 ob st a w η) (vs : List Value) (hvs : VReps w (fun b => ob b ∨ ownB st.hp η b) st.hp st.nx η args vs) :
    Calls P f vs.toArray w fun e w' => (∃ v x st' η', e = .returned v ∧ K x st' ∧ st'.sz = st.sz ∧ SRep w0 ob st' a w' η' ∧ VRep w' (fun b => ob b ∨ ownB st'.hp η' b) st'.hp st'.nx η' x v) ∧
      w.heap.size ≤ w'.heap.size ∧ ∀ b, b < w.heap.size → b ∉ bsOf η k r0 → w'.heap[b]? = w.heap[b]? := by
  have hrv : rowsVw st.hp [(0, .row k)] 1 [(0, r0)] := ⟨rfl, hr, trivial⟩
  have hfree : ∀ b, ownB st.hp η b → ¬ ob b := fun b hb => h.free hb
  have ha0 := vws_sound (R := [(0, .row k)]) (nx' := 1) h.heap hfree hrv args args0 hv hvs
  let η1 : Env := ηV st.hp η [(0, Org.row k)]
  let ob1 : Nat → Prop := fun b => ob b ∨ ∃ j r, j ≠ k ∧ look st.hp j = some r ∧ b ∈ bsOf η j r
  have hv0 : η1.val 0 = η.val k := rfl
  have hc0 : η1.cel 0 = η.cel k := rfl
  have hbs : ∀ r, bsOf η1 0 r = bsOf η k r := fun r => by simp only [bsOf, hv0, hc0]
  have hone : ∀ j r, look [(0, r0)] j = some r → j = 0 ∧ r = r0 := fun j r hk => by
    rw [look_cons] at hk
    split at hk
    · rename_i h0; exact ⟨h0.symm, (Option.some.inj hk).symm⟩
    · cases hk
  have hdis : ∀ b, b ∈ bsOf η1 0 r0 → ¬ ob1 b := fun b hb => by
    rw [hbs] at hb
    rintro (h1 | ⟨j, r, hj, hl, hm⟩)
    · exact hfree b ⟨k, r0, hlk, hb⟩ h1
    · exact h.heap.apart j r k r0 hl hlk hj b hm hb
  have hkeep : Keeps w (badOf ob st.hp η) w (badOf ob1 [(0, r0)] η1) := fun b o x hb hc => by
    refine ⟨?_, hc⟩
    rintro ((h1 | ⟨j, r, _, hl, hm⟩) | ⟨j, r, hj, hm⟩)
    · exact hb (.inl h1)
    · exact hb (.inr ⟨j, r, hl, hm⟩)
    · obtain ⟨rfl, rfl⟩ := hone j r hj
      rw [hbs] at hm
      exact hb (.inr ⟨k, _, hlk, hm⟩)
  have hh1 : HRep w w0.B ob1 [(0, r0)] 1 η1 := by
    refine ⟨fun j r hj => ?_, fun j r hj => ?_, fun j r j' r' hj hj' hne => ?_, fun j r hj => ?_⟩
    · obtain ⟨rfl, rfl⟩ := hone j r hj
      have hrow := h.heap.row k _ hlk
      match r, ht, hrow with
      | .cells e (y :: l), ht, ⟨b, p1, p2, p3, p4⟩ => exact ⟨b, by rw [hv0]; exact p1, p2, by rw [hc0]; exact p3, by rw [hc0]; exact tcells_rep hkeep ht p4⟩
      | .cells _ [], ht, _ => simp [tRow] at ht
      | .ints .., ht, _ => simp [tRow] at ht
      | .rows .., ht, _ => simp [tRow] at ht
      | .recs .., ht, _ => simp [tRow] at ht
    · obtain ⟨rfl, rfl⟩ := hone j r hj
      rw [hbs]; exact h.heap.nodup k _ hlk
    · obtain ⟨rfl, rfl⟩ := hone j r hj
      obtain ⟨rfl, rfl⟩ := hone j' r' hj'
      exact absurd rfl hne
    · obtain ⟨rfl, rfl⟩ := hone j r hj
      exact Nat.one_pos
  refine (hs.2 w w0.B ob1 η1 vs (wB h) (fun b hb => ?_) hdis hh1 (pargs_rep hkeep args args0 vs hp hv hvs ha0)).mono ?_
  · rcases hb with h1 | ⟨j, r, _, hl, hm⟩
    · exact h.badlt (.inl h1)
    · exact h.badlt (.inr ⟨j, r, hl, hm⟩)
  · rintro e w' ⟨v, x, r', η', rfl, hvx, hsh, hpo, hbel, hfrm, ht', hrow, hnd, hsrc, hkind, hval, hlen⟩
    have hu : (η.upd k (η.val k) (η'.cel 0)).val k = η'.val 0 := by rw [upd_val, hval, hv0]
    have hbs' : bsOf (η.upd k (η.val k) (η'.cel 0)) k r' = bsOf η' 0 r' := by simp only [bsOf, hu, upd_cel]
    have hkeep' : Keeps w' (badOf ob1 [(0, r')] η') w' (badOf ob ((st.killSub k).upd k r').hp (η.upd k (η.val k) (η'.cel 0))) := fun b o x hb hc => by
      refine ⟨?_, hc⟩
      rintro (h1 | ⟨j, r1, hj, hm⟩)
      · exact hb (.inl (.inl h1))
      · by_cases hjk : j = k
        · subst hjk
          simp only [St.upd, look_upd, if_true] at hj
          obtain rfl := Option.some.inj hj
          rw [hbs'] at hm
          exact hb (.inr ⟨0, _, rfl, hm⟩)
        · simp only [St.upd, St.killSub, look_upd, if_neg (Ne.symm hjk), look_fltH] at hj
          obtain ⟨r2, h2, rfl⟩ := Option.map_eq_some_iff.1 hj
          rw [bsOf_flt, bsOf_congr (upd_ne _ _ _ _ j hjk).1 (upd_ne _ _ _ _ j hjk).2 rfl] at hm
          exact hb (.inl (.inr ⟨j, r2, hjk, h2, hm⟩))
    have hs' := SRep.mutT (w' := w') h (cs' := η'.cel 0) hlk hkind (by rw [hlen, hc0]; exact Nat.le_refl _) (fun b hb hn => hfrm b hb (by rw [hbs]; exact hn)) hbel
      (by rw [hbs']; exact hnd) (fun b hb => by rw [hbs'] at hb; rw [← hbs]; exact hsrc b hb) (by
        match r', ht', hrow with
        | .cells e (y :: l), ht', ⟨b, p1, p2, p3, p4⟩ => exact ⟨b, by rw [hu]; exact p1, p2, by rw [upd_cel]; exact p3, by rw [upd_cel]; exact tcells_rep hkeep' ht' p4⟩
        | .cells _ [], ht', _ => simp [tRow] at ht'
        | .ints .., ht', _ => simp [tRow] at ht'
        | .rows .., ht', _ => simp [tRow] at ht'
        | .recs .., ht', _ => simp [tRow] at ht')
    exact ⟨⟨v, x, _, _, rfl, hk x r' hpo, rfl, hs', shut_rep hkeep' x hsh hvx⟩, hbel.size, fun b hb hn => hfrm b hb (by rw [hbs]; exact hn)⟩

theorem ACallS.tmut {f : FuncId} {args args0 : List AVal} {r0 : ARow} {K : AVal → St → Prop} {post : AVal → ARow → Prop} (k : Nat) (hs : TSpec P f r0 args0 post)
    (hk : ∀ x r', post x r' → K x ((st.killSub k).upd k r')) (hlk : look st.hp k = some r0) (hv : vws st.hp [(0, .row k)] 1 args args0) (hr : rowVw st.hp [(0, .row k)] 1 (.row k) r0)
    (hp : pargs args args0 = true := by rfl) (ht : tRow r0 = true := by rfl) : ACallS P st f args K :=
  ⟨hs.1, fun _ _ _ _ _ h vs hvs => (tmut_core k hs hk hlk hv hr hp ht h vs hvs).mono fun _ _ h => h.1⟩

theorem ACallT.tmut {f : FuncId} {args args0 : List AVal} {r0 : ARow} {K : AVal → St → Prop} {post : AVal → ARow → Prop} (hs : TSpec P f r0 args0 post)
    (hk : ∀ x r', post x r' → K x ((st.killSub 0).upd 0 r')) (hlk : look st.hp 0 = some r0) (hv : vws st.hp [(0, .row 0)] 1 args args0) (hr : rowVw st.hp [(0, .row 0)] 1 (.row 0) r0)
    (hp : pargs args args0 = true := by rfl) (ht : tRow r0 = true := by rfl) : ACallT P st f args K :=
  ⟨hs.1, fun _ _ _ _ _ h vs hvs => (tmut_core 0 hs hk hlk hv hr hp ht h vs hvs).mono fun _ _ h => ⟨h.1, h.2.1, fun r hr => by
    rw [hlk] at hr
    obtain rfl := Option.some.inj hr
    exact h.2.2⟩⟩

/-- .. of a number, of a list: the contract's arguments are the call's -/
theorem ACallT.tmutI {f : FuncId} {n : Int} {r0 : ARow} {K : AVal → St → Prop} {post : AVal → ARow → Prop} (hs : TSpec P f r0 [.ptr 0 0, .c (.int .i64 n)] post)
    (hk : ∀ x r', post x r' → K x ((st.killSub 0).upd 0 r')) (hlk : look st.hp 0 = some r0) (hr : rowVw st.hp [(0, .row 0)] 1 (.row 0) r0)
    (ht : tRow r0 = true := by rfl) : ACallT P st f [.ptr 0 0, .c (.int .i64 n)] K := ACallT.tmut hs hk hlk ⟨⟨rfl, rfl, rfl⟩, rfl, trivial⟩ hr rfl ht
theorem ACallT.tmutL {f : FuncId} {k : IntKind} {l : List Int} {r0 : ARow} {K : AVal → St → Prop} {post : AVal → ARow → Prop} (hs : TSpec P f r0 [.ptr 0 0, .t (.ints k l)] post)
    (hk : ∀ x r', post x r' → K x ((st.killSub 0).upd 0 r')) (hlk : look st.hp 0 = some r0) (hr : rowVw st.hp [(0, .row 0)] 1 (.row 0) r0)
    (ht : tRow r0 = true := by rfl) : ACallT P st f [.ptr 0 0, .t (.ints k l)] K := ACallT.tmut hs hk hlk ⟨⟨rfl, rfl, rfl⟩, rfl, trivial⟩ hr rfl ht

theorem give_core {j e : Nat} {kd : IntKind} {l : List Int} (hr : look st.hp j = some (.ints e kd l)) (hj : j ≠ 0) (h : SRep w0 ob st a w η) {vs : List Value}
    (hvs : VReps w (fun b => ob b ∨ ownB st.hp η b) st.hp st.nx η [.ptr 0 0, .own j] vs) : VReps w (fun b => ob b ∨ ownB (st.del j).hp η b) (st.del j).hp (st.del j).nx η [.ptr 0 0, .t (.ints kd l)] vs := by
  match vs, hvs with
  | [v1, v2], ⟨h1, h2, _⟩ =>
    refine ⟨⟨h1.1, fun r hr' => h1.2 r (by simpa [St.del, look_rem_ne _ _ _ (Ne.symm hj)] using hr')⟩, ?_, trivial⟩
    have hrow := h.heap.row j _ hr
    have e2 := (h2.2 _ hr).2
    subst e2
    refine own_intsB hrow.1 (fun b hb => ?_)
    have hm : b ∈ bsOf η j (.ints e kd l) := by simp [bsOf, ARow.kind, hb]
    rintro (h3 | ⟨j', r', hj', hm'⟩)
    · exact h.free ⟨j, _, hr, hm⟩ h3
    · simp only [St.del] at hj'
      by_cases e3 : j' = j
      · subst e3; rw [look_rem] at hj'; cases hj'
      · rw [look_rem_ne _ _ _ e3] at hj'
        exact h.heap.apart j' r' j _ hj' hr e3 b hm' hm

/-- a list of the call's own is given away, read-only from here on -/
theorem ACallS.give {f : FuncId} {j e : Nat} {kd : IntKind} {l : List Int} {K : AVal → St → Prop} (h : ACallS P (st.del j) f [.ptr 0 0, .t (.ints kd l)] K)
    (hr : look st.hp j = some (.ints e kd l) := by rfl) (hj : Nat.beq j 0 = false := by rfl) : ACallS P st f [.ptr 0 0, .own j] K := by
  have hj : j ≠ 0 := fun e => by rw [e] at hj; cases hj
  exact ⟨h.fok, fun w0 ob a w η hs vs hvs => (h.run w0 ob a w η (hs.giveUp j) vs (give_core hr hj hs hvs)).mono fun e w' h => h⟩
theorem ACallT.give {f : FuncId} {j e : Nat} {kd : IntKind} {l : List Int} {K : AVal → St → Prop} (h : ACallT P (st.del j) f [.ptr 0 0, .t (.ints kd l)] K)
    (hr : look st.hp j = some (.ints e kd l) := by rfl) (hj : Nat.beq j 0 = false := by rfl) : ACallT P st f [.ptr 0 0, .own j] K := by
  have hj : j ≠ 0 := fun e => by rw [e] at hj; cases hj
  refine ⟨h.fok, fun w0 ob a w η hs vs hvs => (h.run w0 ob a w η (hs.giveUp j) vs (give_core hr hj hs hvs)).mono fun e w' h => ⟨h.1, h.2.1, fun r hr' => h.2.2 r ?_⟩⟩
  show look (rem j st.hp) 0 = some r
  rw [look_rem_ne _ _ _ (Ne.symm hj)]; exact hr'
end
end Go.Aw
/- 'x[i] = append(x[i], ..)' on rows of the call's own. -/
namespace Go.Aw
open Go.RowKit

theorem F2.set' {α β : Type} {R R' : α → β → Prop} : ∀ {l : List α} {r : List β}, F2 R l r → ∀ {i : Nat} {a : α} {b : β}, (∀ (j : Nat) (x : α) (y : β), j ≠ i → l[j]? = some x → r[j]? = some y → R x y → R' x y) → R' a b → F2 R' (l.set i a) (r.set i b)
  | [], [], _, _, _, _, _, _ => by simp [F2]
  | x :: l, y :: r, h, 0, _, _, hj, hab => ⟨hab, F2.intro (F2.length h.2) (fun j u v hu hv => by
      obtain ⟨v', hv', h'⟩ := F2.at h.2 hu
      rw [hv] at hv'; obtain rfl := Option.some.inj hv'
      exact hj (j + 1) u v (by omega) (by simpa using hu) (by simpa using hv) h')⟩
  | x :: l, y :: r, h, i + 1, _, _, hj, hab => ⟨hj 0 x y (by omega) rfl rfl h.1, F2.set' h.2 (fun j u v hne hu hv => hj (j + 1) u v (by omega) (by simpa using hu) (by simpa using hv)) hab⟩
  | [], _ :: _, h, _, _, _, _, _ => h.elim
  | _ :: _, [], h, _, _, _, _, _ => h.elim

theorem flat_set2 : ∀ {xs : List Value} {v old : Value} (i : Nat), xs[i]? = some old → (xs.flatMap blk).Nodup → (blk v).Nodup → (∀ b, b ∈ blk v → b ∈ blk old ∨ b ∉ xs.flatMap blk) →
    ((xs.set i v).flatMap blk).Nodup ∧ (∀ b, b ∈ (xs.set i v).flatMap blk → b ∈ blk v ∨ b ∈ xs.flatMap blk)
  | [], _, _, i, h, _, _, _ => by simp at h
  | x :: xs, v, old, 0, h, hn, hv, hd => by
      simp at h; subst h
      rw [List.flatMap_cons] at hn hd
      obtain ⟨n1, n2, n3⟩ := List.nodup_append.1 hn
      rw [List.set_cons_zero, List.flatMap_cons, List.flatMap_cons]
      refine ⟨List.nodup_append.2 ⟨hv, n2, fun a ha b hb e => ?_⟩, fun b hb => ?_⟩
      · subst e
        rcases hd a ha with h1 | h1
        · exact n3 a h1 a hb rfl
        · exact h1 (List.mem_append.2 (.inr hb))
      · rcases List.mem_append.1 hb with h1 | h1
        · exact .inl h1
        · exact .inr (List.mem_append.2 (.inr h1))
  | x :: xs, v, old, i + 1, h, hn, hv, hd => by
      simp at h
      rw [List.flatMap_cons] at hn hd
      obtain ⟨n1, n2, n3⟩ := List.nodup_append.1 hn
      have hold : ∀ b, b ∈ blk old → b ∈ xs.flatMap blk := fun b hb => List.mem_flatMap.2 ⟨old, List.mem_of_getElem? h, hb⟩
      obtain ⟨f1, f2⟩ := flat_set2 i h n2 hv (fun b hb => (hd b hb).imp id (fun h1 h2 => h1 (List.mem_append.2 (.inr h2))))
      rw [List.set_cons_succ, List.flatMap_cons, List.flatMap_cons]
      refine ⟨List.nodup_append.2 ⟨n1, f1, fun a ha b hb e => ?_⟩, fun b hb => ?_⟩
      · subst e
        rcases f2 a hb with h1 | h1
        · rcases hd a h1 with h2 | h2
          · exact n3 a ha a (hold a h2) rfl
          · exact h2 (List.mem_append.2 (.inl ha))
        · exact n3 a ha a h1 rfl
      · rcases List.mem_append.1 hb with h1 | h1
        · exact .inr (List.mem_append.2 (.inl h1))
        · exact (f2 b h1).imp id (fun h2 => List.mem_append.2 (.inr h2))

def aset (Γ : Tys) (st : St) (e t : Nat) (u v x c : Operand) (d1 d2 : Nat) (K : St → Prop) : Prop :=
  match look Γ t with
  | some ⟨.slice e', _, _, _⟩ => match look Γ e' with
    | some ⟨.slice _, 1, _, _⟩ => match look Γ e with
      | some ⟨.slice ei, _, _, _⟩ => match look Γ ei with
        | some ⟨_, 1, by_, [_]⟩ => match Nat.ble by_ 64 with
          | true => match ev st u with
            | some (.sub k i) => match ev st v with
              | some (.own k2) => match ev (st.put d1 .un) x with
                | some (.own k') => match ev (st.put d1 .un) c with
                  | some (.c (.int _ n)) => match look st.hp k with
                    | some (.rows e0 e1 true m) => match look st.hp k2 with
                      | some (.ints _ .i64 l2) => match Nat.beq k k' && Nat.beq e1 ei && Nat.blt d1 st.sz && Nat.blt d2 st.sz with
                        | true => n = (i : Int) ∧ i < m.length ∧ (m.getD i []).length + l2.length ≤ room ∧
                            K ((((st.put d1 .un).put d2 .un).killSub k).upd k (.rows e0 e1 true (m.set i (m.getD i [] ++ l2))))
                        | false => False
                      | _ => False
                    | _ => False
                  | _ => False
                | _ => False
              | _ => False
            | _ => False
          | false => False
        | _ => False
      | _ => False
    | _ => False
  | _ => False

section
variable {P : Program} {Γ : Tys} {w0 : Base} {w w' : World} {ob : Nat → Prop} {st : St} {a : Act} {η : Env}

theorem eval_put {d i : Nat} {v : Value} (hd : d < a.tmps.size) : (a.put (some d) v).eval (.tmp i) = if d = i then v else a.eval (.tmp i) := getD_put hd

theorem aset_sound (hΓ : TysOk P Γ) (h : SRep w0 ob st a w η) {e t e' d1 d2 : Nat} {u v x c : Operand} {K : St → Prop} (hd : d1 ≠ d2) {s1 s2 : Nat} {s3 : List Value} (ht' : look Γ t = some ⟨.slice e', s1, s2, s3⟩)
    {o1 o2 o3 : Oper} (h1 : o1.op = .call ⟨.builtin .append, #[u, v], #[e, e]⟩) (h1d : o1.dst = some d1) (h1g : o1.guard = none)
    (h2 : o2.op = .indexAddr t x c) (h2d : o2.dst = some d2) (h2g : o2.guard = none) (h3 : o3.op = .store e' (.tmp d2) (.tmp d1)) (h3d : o3.dst = none) (h3g : o3.guard = none)
    (hk : aset Γ st e t u v x c d1 d2 K) {opsA : Array Oper} {Q : Exit → Act → World → Prop} (hQ : ∀ st' a' w' η', K st' → SRep w0 ob st' a' w' η' → Q .normal a' w') : wpList P opsA Q [o1, o2, o3] a w := by
  unfold aset at hk
  rw [ht'] at hk
  simp only at hk
  split at hk
  case h_2 => exact hk.elim
  case h_1 q1 q2 q3 hte' =>
  split at hk
  case h_2 => exact hk.elim
  case h_1 ei q4 q5 q6 he =>
  split at hk
  case h_2 => exact hk.elim
  case h_1 q7 by_ zv hei =>
  split at hk
  case h_2 => exact hk.elim
  case h_1 hby =>
  split at hk
  case h_2 => exact hk.elim
  case h_1 k i hu =>
  split at hk
  case h_2 => exact hk.elim
  case h_1 k2 hv =>
  split at hk
  case h_2 => exact hk.elim
  case h_1 k' hx =>
  split at hk
  case h_2 => exact hk.elim
  case h_1 kk n hc =>
  split at hk
  case h_2 => exact hk.elim
  case h_1 e0 e1 m hr =>
  split at hk
  case h_2 => exact hk.elim
  case h_1 e2 l2 hr2 =>
  split at hk
  case h_2 => exact hk.elim
  case h_1 hcond =>
  simp only [Bool.and_eq_true] at hcond
  obtain ⟨⟨⟨c1, c2⟩, c3⟩, c4⟩ := hcond
  have c1 := Nat.eq_of_beq_eq_true c1
  have c2 := Nat.eq_of_beq_eq_true c2
  subst c1 c2
  have c3 : d1 < st.sz := Nat.le_of_ble_eq_true c3
  have c4 : d2 < st.sz := Nat.le_of_ble_eq_true c4
  obtain ⟨rfl, hi, hroom, hK⟩ := hk
  have hby' := Nat.le_of_ble_eq_true hby
  have tyt := (hΓ.at ht').desc
  have tye := (hΓ.at he).desc
  simp only [TD.is] at tyt tye
  have tyei := hΓ.at hei
  have tye' := hΓ.at hte'
  have hrow := h.heap.row k _ hr
  obtain ⟨hlt, hsub⟩ := (ev_sound h hu : VR w ob st η (.sub k i) (a.eval u))
  obtain ⟨_, hcel⟩ := hsub _ hr
  obtain ⟨li, hli, howni⟩ := F2.at' hrow.2 hcel
  have hli' : li = m.getD i [] := by simp [List.getD, hli]
  subst hli'
  obtain ⟨_, hown2⟩ := (ev_sound h hv : VR w ob st η (.own k2) (a.eval v))
  obtain ⟨_, hv2⟩ := hown2 _ hr2
  have hsrc : Src w (a.eval v) l2.length (l2.map (Value.int .i64)) := by rw [hv2]; exact Src.own (h.heap.row k2 _ hr2).1
  obtain ⟨v', w', hrun, hown', hfr, hsz, hsame, hB, hnd'⟩ := run_append_fresh (ty := o1.type) tye tyei rfl hby' rfl howni hsrc (fun y hy => by obtain ⟨_, _, rfl⟩ := List.mem_map.1 hy; rfl) hroom (wB h)
  have hs1 : SRep w0 ob (st.put d1 .un) (a.put (some d1) v') w η := h.put c3 (x := .un) trivial
  have hsz1 : d1 < a.tmps.size := by rw [h.size]; exact c3
  obtain ⟨_, hownx⟩ := (ev_sound hs1 hx : VR w ob (st.put d1 .un) η (.own k) _)
  obtain ⟨_, hxv⟩ := hownx _ hr
  obtain ⟨hcv, _⟩ := (ev_sound hs1 hc : VR w ob (st.put d1 .un) η (.c (.int kk i)) _)
  obtain ⟨ba, cp, hval⟩ := len_own hrow.1
  have hlen := F2.length hrow.2
  obtain ⟨g, rfl, hg0⟩ : ∃ g, ba = some ⟨g, 0, none⟩ ∧ True := by
    rcases hrow.1.2 with ⟨h0, h0'⟩ | ⟨g, cap, cur, h0, _⟩
    · omega
    · rw [hval] at h0; cases h0; exact ⟨g, rfl, trivial⟩
  have hbk : blk (η.val k) = [g] := by rw [hval]; rfl
  have hbs : bsOf η k (.rows e0 e1 true m) = blk (η.val k) ++ (η.cel k).flatMap blk := by simp [bsOf, ARow.kind]
  have hnod := h.heap.nodup k _ hr
  rw [hbs, hbk] at hnod
  obtain ⟨n1, n2, n3⟩ := List.nodup_append.1 hnod
  have hsubm : ∀ b, b ∈ blk (a.eval u) → b ∈ (η.cel k).flatMap blk := fun b hb => List.mem_flatMap.2 ⟨_, List.mem_of_getElem? hcel, hb⟩
  have hgu : g ∉ blk (a.eval u) := fun hb => n3 g (by simp) g (hsubm g hb) rfl
  have hblt : ∀ b, b ∈ bsOf η k (.rows e0 e1 true m) → b < w.heap.size := fun b hb => (RowRep.lt hrow b hb).2
  have hg : g < w.heap.size := hblt g (by rw [hbs, hbk]; simp)
  have hown1 : w'.ownsRow w0.B e0 1 (η.val k) m.length (η.cel k) := ownsRow_same hrow.1 (fun b hb => by
    rw [hbk] at hb; obtain rfl := List.mem_singleton.1 hb
    exact hsame b hg hgu)
  obtain ⟨cur, hg1, ho, hBg, hown3⟩ := own_set hown1 hbk hi v'
  obtain ⟨vb, vc, hvv⟩ := len_own hown'
  have hcellv : v'.cells = [v'].toArray ∧ v'.oneCell' = true := by rw [hvv]; exact ⟨rfl, rfl⟩
  have hst := run_storeAt (P := P) tye' (us := [v']) hcellv.1 rfl (by simp [hcellv.2]) hg1 ho
  let p : Value := .pointer (some ⟨g, 0 + i, none⟩)
  have hs2 : SRep w0 ob ((st.put d1 .un).put d2 .un) ((a.put (some d1) v').put (some d2) p) w η := hs1.put c4 (x := .un) trivial
  have hsz2 : d2 < (a.put (some d1) v').tmps.size := by rw [hs1.size]; exact c4
  let w2 := w'.setRow g (cur.toList.take i ++ [v'] ++ cur.toList.drop (i + 1)).toArray
  have hB2 : Below w0.B w w2 := hB.trans (below_setRow hBg _)
  have hfresh : ∀ b, b ∈ blk v' → b ∈ blk (a.eval u) ∨ b ∉ (η.cel k).flatMap blk := fun b hb => (hfr b hb).imp id (fun e hm => by
    have := hblt b (by rw [hbs]; exact List.mem_append.2 (.inr hm)); omega)
  obtain ⟨f1, f2⟩ := flat_set2 i hcel n2 hnd' hfresh
  have hgv : g ∉ blk v' := fun hb => by
    rcases hfr g hb with h1 | h1
    · exact hgu h1
    · omega
  have hbs' : bsOf (η.upd k (η.val k) ((η.cel k).set i v')) k (.rows e0 e1 true (m.set i (m.getD i [] ++ l2))) = blk (η.val k) ++ ((η.cel k).set i v').flatMap blk := by simp [bsOf, ARow.kind, upd_val, upd_cel]
  have hfin := SRep.mutT (w' := w2) (r' := .rows e0 e1 true (m.set i (m.getD i [] ++ l2))) (cs' := (η.cel k).set i v') hs2 hr rfl (by simp)
    (fun b hb hn => by
      rw [hbs, hbk] at hn
      have e1 : b ≠ g := fun e => hn (by rw [e]; simp)
      show (w'.setRow g _).heap[b]? = _
      rw [setRow_other w' g b _ e1]
      exact hsame b hb (fun hm => hn (List.mem_append.2 (.inr (hsubm b hm))))) hB2
    (by
      rw [hbs', hbk]
      refine List.nodup_append.2 ⟨n1, f1, fun b hb1 b' hb' e => ?_⟩
      subst e
      obtain rfl := List.mem_singleton.1 hb1
      rcases f2 b hb' with h2 | h2
      · exact hgv h2
      · exact n3 b (by simp) b h2 rfl)
    (fun b hb => by
      rw [hbs'] at hb
      rcases List.mem_append.1 hb with h2 | h2
      · exact .inl (by rw [hbs]; exact List.mem_append.2 (.inl h2))
      · rcases f2 b h2 with h3 | h3
        · rcases hfr b h3 with h4 | h4
          · exact .inl (by rw [hbs]; exact List.mem_append.2 (.inr (hsubm b h4)))
          · exact .inr (by omega)
        · exact .inl (by rw [hbs]; exact List.mem_append.2 (.inr h3)))
    (by
      refine ⟨?_, ?_⟩
      · rw [upd_val, upd_cel, List.length_set]; exact hown3
      · rw [upd_cel]
        refine F2.set' hrow.2 (fun j l1 y hne hl1 hy ho1 => ?_) ?_
        · have hap := flat_apart n2 hy hcel hne
          refine own_other (ownsRow_same ho1 (fun b hb => ?_)) (fun hb => n3 g (by simp) g (List.mem_flatMap.2 ⟨y, List.mem_of_getElem? hy, hb⟩) rfl) _
          exact hsame b (hblt b (by rw [hbs]; exact List.mem_append.2 (.inr (List.mem_flatMap.2 ⟨y, List.mem_of_getElem? hy, hb⟩)))) (hap b hb)
        · refine own_other ?_ hgv _
          simp only [List.length_append, List.map_append]
          exact hown')
  have r1 : (execOp a.eval o1).run P w = .ok (.value v') w' := by simp [execOp, h1, resolve, invoke, builtin, hrun]
  have r2 : (execOp (a.put (some d1) v').eval o2).run P w' = .ok (.value p) w' := by
    simp only [execOp, h2, hxv, hcv, hval]
    simp [run_idx_sl tyt tye' rfl hi w', p]
  have r3 : (execOp ((a.put (some d1) v').put (some d2) p).eval o3).run P w' = .ok .skip w2 := by
    refine ANStore h3 ?_
    rw [eval_put hsz2, if_pos rfl, eval_put hsz2, if_neg (Ne.symm hd), eval_put hsz1, if_pos rfl]
    simp only [p, Nat.zero_add]
    exact hst
  unfold wpList
  rw [if_pos (by simp [Region.wanted, h1g])]
  refine .inl ?_
  unfold Oper.wp
  rw [r1, Oper.upon_value, h1d]
  unfold wpList
  rw [if_pos (by simp [Region.wanted, h2g])]
  refine .inl ?_
  unfold Oper.wp
  rw [r2, Oper.upon_value, h2d]
  unfold wpList
  rw [if_pos (by simp [Region.wanted, h3g])]
  refine .inl ?_
  unfold Oper.wp
  rw [r3, Oper.upon_skip, h3d]
  unfold wpList
  exact hQ _ _ _ _ hK hfin

theorem ASet.app (hΓ : TysOk P Γ) {ops : Array Oper} {p1 p2 p3 p4 p5 o1 o2 o3 : Oper} {e t e' d1 d2 s1 s2 : Nat} {s3 : List Value} {u v x c : Operand} {K : St → Prop}
    (hops : ops.toList = [p1, p2, p3, p4, p5, o1, o2, o3])
    (h1 : o1.op = .call ⟨.builtin .append, #[u, v], #[e, e]⟩) (h1d : o1.dst = some d1) (h1g : o1.guard = none)
    (h2 : o2.op = .indexAddr t x c) (h2d : o2.dst = some d2) (h2g : o2.guard = none) (h3 : o3.op = .store e' (.tmp d2) (.tmp d1)) (h3d : o3.dst = none) (h3g : o3.guard = none)
    (ht' : look Γ t = some ⟨.slice e', s1, s2, s3⟩) (hd : Nat.beq d1 d2 = false)
    (hk : alist P Γ ops.toList [p1, p2, p3, p4, p5] st [] (fun st1 => aset Γ st1 e t u v x c d1 d2 K)) : ASet P ops st K := by
  refine ⟨fun id w0 ob a w ⟨η, h⟩ => wp_region_list ?_⟩
  have nodec : DecOk [] a := fun d b hd => by simp [look] at hd
  have hne : d1 ≠ d2 := fun e => by rw [e, Nat.beq_refl] at hd; cases hd
  have := alist_soundR (P := P) hΓ (opsA := ops) (Q := fun e a' w' => e = .normal ∧ ∃ st', K st' ∧ StRep w0 ob st' a' w') [o1, o2, o3] (fun st1 a1 w1 η1 hk1 hs1 =>
    aset_sound hΓ hs1 hne ht' h1 h1d h1g h2 h2d h2g h3 h3d h3g hk1 (fun st' a' w' η' hK hs' => ⟨rfl, st', hK, η', hs'⟩)) [p1, p2, p3, p4, p5] st [] a w η h nodec hk
  rw [hops]
  exact this

/-- .. of which all orders come to states that an index tells -/
theorem ADraw.midI {ι : Type} {ops : Array Oper} {K : St → Prop} (mid : ι → St) (I : ι → Prop) (h : ADraw P ops st (fun st1 => ∃ i o, Seen o st1 (mid i) ∧ I i)) (hk : ∀ i, I i → K (mid i)) : ADraw P ops st K :=
  ⟨fun id w0 ob a w hr => wp_mono (h.run id w0 ob a w hr) (fun _ _ _ ⟨he, _, ⟨i, _, hv, hi⟩, ⟨_, hs⟩⟩ => ⟨he, mid i, hk i hi, _, hv.rep hs⟩)⟩
end
end Go.Aw
/- The cursor of the draws: next, pick, one. -/
namespace Go.Proofs.Ytkomndcehdneaaa
open Go.Aw
set_option maxRecDepth 100000

def OkB (l : List Int) : Prop := l.length ≤ 9223372036854775807 ∧ ∀ x, x ∈ l → 0 ≤ x ∧ x ≤ 255
abbrev cur (code : List Int) (a : Nat) (s : Int) : ARow := .cells 107 [.t (.ints .u8 code), .c (.int .i64 (a)), .c (.int .u64 s)]

theorem W_inr (n : Int) : InR (W n) := by
  unfold InR
  show _ ≤ IntKind.i64.wrap n ∧ IntKind.i64.wrap n ≤ _
  rw [IntKind.wrap_i64]; omega
theorem among_in {l : List Int} {lo hi : Int} {i : Nat} (h : rowIn l lo hi = true) (hl : i < l.length) : lo ≤ l.getD i 0 ∧ l.getD i 0 ≤ hi := by
  simp only [rowIn, inR, List.all_eq_true, decide_eq_true_eq] at h
  exact h _ (getD_mem hl)
theorem and255 (x : Int) : 0 ≤ IntKind.i64.wrap (bits .and .u64 x 255) ∧ IntKind.i64.wrap (bits .and .u64 x 255) ≤ 255 := by
  have h : bits .and .u64 x 255 = IntKind.u64.wrap ((BitVec.ofInt 64 x &&& BitVec.ofInt 64 255).toNat : Int) := rfl
  have h2 : (BitVec.ofInt 64 x &&& BitVec.ofInt 64 255).toNat ≤ 255 := by
    rw [BitVec.toNat_and]
    exact Nat.le_trans Nat.and_le_right (by decide)
  rw [h]
  generalize (BitVec.ofInt 64 x &&& BitVec.ofInt 64 255).toNat = n at h2
  rw [IntKind.wrap_u64, IntKind.wrap_i64]
  omega

theorem tmod_bd {a n : Int} (ha : 0 ≤ a) (hn : 0 < n) : 0 ≤ Int.tmod a n ∧ Int.tmod a n < n := by
  rw [Int.tmod_eq_emod_of_nonneg ha]
  exact ⟨Int.emod_nonneg _ (by omega), Int.emod_lt_of_pos _ hn⟩

theorem next_spec (code : List Int) (hc : OkB code) (a : Nat) (s : Int) (ha : a ≤ 1000000000) :
    TSpec Try.prog 227 (cur code a s) [.ptr 0 0] (fun v r => ∃ x s' : Int, v = .c (.int .i64 x) ∧ 0 ≤ x ∧ x ≤ 255 ∧ r = cur code (a + 1) s') := by
  refine tspec tyOk mx Try.func227 rfl (by kernel_rfl) rfl rfl ?_
  conv => whnf
  refine ADraw.std tyOk mx ⟨by kernel_rfl, ?_⟩
  conv => whnf
  refine ⟨fun h => ?_, fun h => ?_⟩
  · have h := ltT h
    have hb := hc.2 _ (getD_mem (d := 0) h)
    conv => whnf
    refine ADraw.std tyOk mx ⟨by kernel_rfl, ?_⟩
    conv => whnf
    refine ⟨a, rfl, h, ?_⟩
    conv => whnf
    rw [nat_wrap (by omega)]
    generalize IntKind.u64.wrap (IntKind.u64.wrap (IntKind.u64.wrap (s * 6364136223846793005) + IntKind.u64.wrap (IntKind.i64.wrap (code.getD a 0))) + 462197) = s'
    refine ADraw.std tyOk mx ⟨by kernel_rfl, ?_⟩
    conv => whnf
    refine ⟨fun h1 => ?_, fun h1 => ?_⟩
    · conv => whnf
      have e : IntKind.i64.wrap (code.getD a 0) = code.getD a 0 := w64 (by omega) (by omega)
      exact ⟨_, s', rfl, by omega, by omega, rfl⟩
    · exact absurd (of_decide_eq_false h1) (by omega)
  · have h := ltF h
    conv => whnf
    rw [nat_wrap (by omega)]
    generalize IntKind.u64.wrap (IntKind.u64.wrap (IntKind.u64.wrap (s * 6364136223846793005) + IntKind.u64.wrap 0) + 462197) = s'
    refine ADraw.std tyOk mx ⟨by kernel_rfl, ?_⟩
    conv => whnf
    refine ⟨fun h1 => ?_, fun h1 => ?_⟩
    · exact absurd (of_decide_eq_true h1) (by omega)
    · conv => whnf
      refine ⟨by omega, ?_⟩
      conv => whnf
      have e := and255 (shr IntKind.u64 s' 40)
      exact ⟨_, s', rfl, e.1, e.2, rfl⟩

theorem l1OwnC_spec (l : List Int) (hl : l.length ≤ 1048576) : FSpec Try.prog 210 [.t (.ints .i64 l)] (ex (.own 0) [(0, .ints 3 .i64 l)]) := by
  refine fspec tyOk mx Try.func210 rfl (by kernel_rfl) rfl ?_
  conv => whnf
  refine ⟨by simp [room]; omega, ?_⟩
  conv => whnf
  exact ⟨rfl, rfl⟩

/-- what a draw tells: a number in bounds, and the cursor moved on a little -/
def drawn (code : List Int) (a k : Nat) (lo hi : Int) (v : AVal) (r : ARow) : Prop :=
  ∃ (x : Int) (a' : Nat) (s' : Int), v = .c (.int .i64 x) ∧ lo ≤ x ∧ x < hi ∧ a ≤ a' ∧ a' ≤ a + k ∧ r = cur code a' s'

theorem pick_spec (code : List Int) (hc : OkB code) (a : Nat) (s : Int) (ha : a ≤ 900000000) (n : Int) (h0 : -1000 ≤ n) (h1 : n ≤ 65536) :
    TSpec Try.prog 117 (cur code a s) [.ptr 0 0, .c (.int .i64 (n))] (drawn code a 2 0 (max n 1)) := by
  refine tspec tyOk mx Try.func117 rfl (by kernel_rfl) rfl rfl ?_
  conv => whnf
  refine ⟨fun h => ?_, fun h => ?_⟩
  · have h := of_decide_eq_true h
    conv => whnf
    exact ⟨0, a, s, rfl, by omega, by omega, by omega, by omega, rfl⟩
  · have h := of_decide_eq_false h
    conv => whnf
    refine ACallS.tmut 0 (next_spec code hc a s (by omega)) ?_ rfl (by (repeat' (first | exact trivial | exact rfl | refine And.intro ?_ ?_)) <;> (try first | omega | (simp; done))) (by (repeat' (first | exact trivial | exact rfl | refine And.intro ?_ ?_)) <;> (try first | omega | (simp; done)))
    rintro v r ⟨x, s1, rfl, x0, x1, rfl⟩
    conv => whnf
    refine ⟨fun h2 => ?_, fun h2 => ?_⟩
    · have h2 := of_decide_eq_true h2
      conv => whnf
      refine ACallS.tmut 0 (next_spec code hc (a + 1) s1 (by omega)) ?_ rfl (by (repeat' (first | exact trivial | exact rfl | refine And.intro ?_ ?_)) <;> (try first | omega | (simp; done))) (by (repeat' (first | exact trivial | exact rfl | refine And.intro ?_ ?_)) <;> (try first | omega | (simp; done)))
      rintro v r ⟨y, s2, rfl, y0, y1, rfl⟩
      conv => whnf
      refine ⟨by omega, ?_⟩
      conv => whnf
      have e1 : IntKind.i64.wrap (x * 256) = x * 256 := w64 (by omega) (by omega)
      have e2 : IntKind.i64.wrap (x * 256 + y) = x * 256 + y := w64 (by omega) (by omega)
      rw [e1, e2]
      have hz := tmod_bd (a := x * 256 + y) (n := n) (by omega) (by omega)
      refine ⟨_, a + 2, s2, rfl, ?_, ?_, by omega, by omega, rfl⟩
      · omega
      · omega
    · have h2 := of_decide_eq_false h2
      conv => whnf
      refine ⟨by omega, ?_⟩
      conv => whnf
      have hz := tmod_bd (a := x) (n := n) (by omega) (by omega)
      refine ⟨_, a + 1, s1, rfl, ?_, ?_, by omega, by omega, rfl⟩
      · omega
      · omega

def drawnB (code : List Int) (a k : Nat) (v : AVal) (r : ARow) : Prop := ∃ (x : Bool) (a' : Nat) (s' : Int), v = .c (.bool x) ∧ a ≤ a' ∧ a' ≤ a + k ∧ r = cur code a' s'
theorem one_spec (code : List Int) (hc : OkB code) (a : Nat) (s : Int) (ha : a ≤ 900000000) (n : Int) (h0 : -1000 ≤ n) (h1 : n ≤ 65536) :
    TSpec Try.prog 118 (cur code a s) [.ptr 0 0, .c (.int .i64 (n))] (drawnB code a 2) := by
  refine tspec tyOk mx Try.func118 rfl (by kernel_rfl) rfl rfl ?_
  conv => whnf
  refine ACallS.tmut 0 (pick_spec code hc a s ha n h0 h1) ?_ rfl (by (repeat' (first | exact trivial | exact rfl | refine And.intro ?_ ?_)) <;> (try first | omega | (simp; done))) (by (repeat' (first | exact trivial | exact rfl | refine And.intro ?_ ?_)) <;> (try first | omega | (simp; done)))
  rintro v r ⟨x, a1, s1, rfl, x0, x1, e1, e2, rfl⟩
  conv => whnf
  exact ⟨_, a1, s1, rfl, e1, e2, rfl⟩
end Go.Proofs.Ytkomndcehdneaaa
/- Draws of numbers of a list, of sizes. -/
namespace Go.Proofs.Ytkomndcehdneaaa
open Go.Aw
set_option maxRecDepth 100000

theorem l1MostC_spec (x y : Int) : FSpec Try.prog 165 [.c (.int .i64 (x)), .c (.int .i64 (y))] (ex (.c (.int .i64 (if x < y then y else x))) []) := by
  refine fspec tyOk mx Try.func165 rfl (by kernel_rfl) rfl ?_
  conv => whnf
  refine ⟨fun h => ?_, fun h => ?_⟩
  · have h := of_decide_eq_true h
    conv => whnf
    exact ⟨by first | rw [if_pos h] | rw [if_neg (by omega)], rfl⟩
  · have h := of_decide_eq_false h
    conv => whnf
    exact ⟨by first | rw [if_neg h] | (split <;> (first | rfl | (congr 2; omega))), rfl⟩
theorem l1LeastC_spec (x y : Int) : FSpec Try.prog 257 [.c (.int .i64 (x)), .c (.int .i64 (y))] (ex (.c (.int .i64 (if x < y then x else y))) []) := by
  refine fspec tyOk mx Try.func257 rfl (by kernel_rfl) rfl ?_
  conv => whnf
  refine ⟨fun h => ?_, fun h => ?_⟩
  · have h := of_decide_eq_true h
    conv => whnf
    exact ⟨by first | rw [if_pos h] | rw [if_neg (by omega)], rfl⟩
  · have h := of_decide_eq_false h
    conv => whnf
    exact ⟨by first | rw [if_neg h] | (split <;> (first | rfl | (congr 2; omega))), rfl⟩

/-- one of a list -/
def drawnC (code : List Int) (a : Nat) (lo hi : Int) (v : AVal) (r : ARow) : Prop :=
  ∃ (x : Int) (a' : Nat) (s' : Int), v = .c (.int .i64 x) ∧ lo ≤ x ∧ x ≤ hi ∧ a ≤ a' ∧ a' ≤ a + 2 ∧ r = cur code a' s'
theorem among_spec (code : List Int) (hc : OkB code) (a : Nat) (s : Int) (ha : a ≤ 900000000) (l : List Int) (hl : (Nat.ble 1 l.length && Nat.ble l.length 65536) = true) (lo hi : Int) (hin : rowIn l lo hi = true) :
    TSpec Try.prog 116 (cur code a s) [.ptr 0 0, .t (.ints .i64 l)] (drawnC code a lo hi) := by
  simp only [Bool.and_eq_true, Nat.ble_eq] at hl
  refine tspec tyOk mx Try.func116 rfl (by kernel_rfl) rfl rfl ?_
  conv => whnf
  refine ACallS.tmut 0 (pick_spec code hc a s ha l.length (by omega) (by omega)) ?_ rfl (by (repeat' (first | exact trivial | exact rfl | refine And.intro ?_ ?_)) <;> (try first | omega | (simp; done))) (by (repeat' (first | exact trivial | exact rfl | refine And.intro ?_ ?_)) <;> (try first | omega | (simp; done)))
  rintro v r ⟨x, a1, s1, rfl, x0, x1, e1, g1, rfl⟩
  conv => whnf
  obtain ⟨i, rfl, hi⟩ := nat_of (len := l.length) x0 (by omega)
  refine ⟨i, rfl, hi, ?_⟩
  conv => whnf
  have h := among_in hin hi
  exact ⟨_, a1, s1, rfl, h.1, h.2, e1, g1, rfl⟩

def near (x : Int) : Nat := (if x < 0 then 0 else if x < 4 then x else 4).toNat
theorem near_le (x : Int) : near x ≤ 4 := by unfold near; omega
theorem l2Near_spec (x : Int) : FSpec Try.prog 235 [.c (.int .i64 (x))] (ex (.c (.int .i64 (near x))) []) := by
  refine fspec tyOk mx Try.func235 rfl (by kernel_rfl) rfl ?_
  conv => whnf
  refine ACall.use (l1MostC_spec _ _) ?_
  conv => whnf
  refine ACall.use (l1LeastC_spec _ _) ?_
  conv => whnf
  refine ⟨?_, rfl⟩
  have e : (if (if x < 0 then 0 else x) < 4 then (if x < 0 then 0 else x) else 4) = (near x : Int) := by unfold near; omega
  rw [e]

/-- a drawn pair of numbers of questions -/
def drawn2 (code : List Int) (a k : Nat) (v : AVal) (r : ARow) : Prop :=
  ∃ (x y : Int) (a' : Nat) (s' : Int), v = .tu [.c (.int .i64 x), .c (.int .i64 y)] ∧ InR x ∧ InR y ∧ a ≤ a' ∧ a' ≤ a + k ∧ r = cur code a' s'

theorem sizes_spec (code : List Int) (hc : OkB code) (a : Nat) (s : Int) (ha : a ≤ 800000000) :
    TSpec Try.prog 136 (cur code a s) [.ptr 0 0] (drawn2 code a 8) := by
  refine tspec tyOk mx Try.func136 rfl (by kernel_rfl) rfl rfl ?_
  conv => whnf
  refine ACallS.tmut 0 (one_spec code hc a s (by omega) 2 (by omega) (by omega)) ?_ rfl (by (repeat' (first | exact trivial | exact rfl | refine And.intro ?_ ?_)) <;> (try first | omega | (simp; done))) (by (repeat' (first | exact trivial | exact rfl | refine And.intro ?_ ?_)) <;> (try first | omega | (simp; done)))
  rintro v r ⟨b1, a1, s1, rfl, e_a1, g_a1, rfl⟩
  conv => whnf
  refine ⟨fun h1 => ?_, fun h1 => ?_⟩
  · conv => whnf
    exact ⟨2, 2, a1, s1, rfl, by unfold InR; omega, by unfold InR; omega, by omega, by omega, rfl⟩
  · conv => whnf
    refine ACallS.tmut 0 (one_spec code hc a1 s1 (by omega) 24 (by omega) (by omega)) ?_ rfl (by (repeat' (first | exact trivial | exact rfl | refine And.intro ?_ ?_)) <;> (try first | omega | (simp; done))) (by (repeat' (first | exact trivial | exact rfl | refine And.intro ?_ ?_)) <;> (try first | omega | (simp; done)))
    rintro v r ⟨b2, a2, s2, rfl, e_a2, g_a2, rfl⟩
    conv => whnf
    refine ⟨fun h2 => ?_, fun h2 => ?_⟩
    · conv => whnf
      refine ACallS.inline tyOk mx Try.func116 rfl (by kernel_rfl) rfl ?_
      conv => whnf
      refine ACallS.tmut 0 (pick_spec code hc a2 s2 (by omega) 4 (by omega) (by omega)) ?_ rfl (by (repeat' (first | exact trivial | exact rfl | refine And.intro ?_ ?_)) <;> (try first | omega | (simp; done))) (by (repeat' (first | exact trivial | exact rfl | refine And.intro ?_ ?_)) <;> (try first | omega | (simp; done)))
      rintro v r ⟨y, a3, s3, rfl, y0, y1, e_a3, g_a3, rfl⟩
      conv => whnf
      obtain ⟨i, rfl, hi⟩ := nat_of (len := 4) y0 (by omega)
      refine ⟨i, rfl, hi, ?_⟩
      conv => whnf
      have h_x : -1 ≤ (((((List.replicate 4 (0 : Int)).set 0 0).set 1 4).set 2 (-1)).set 3 2).getD i 0 ∧ (((((List.replicate 4 (0 : Int)).set 0 0).set 1 4).set 2 (-1)).set 3 2).getD i 0 ≤ 4 := among_in (by kernel_rfl) hi
      generalize (((((List.replicate 4 (0 : Int)).set 0 0).set 1 4).set 2 (-1)).set 3 2).getD i 0 = x at h_x ⊢
      refine ⟨rfl, ?_⟩
      conv => whnf
      clear y0 y1 hi
      refine ACallS.inline tyOk mx Try.func116 rfl (by kernel_rfl) rfl ?_
      conv => whnf
      refine ACallS.tmut 0 (pick_spec code hc a3 s3 (by omega) 4 (by omega) (by omega)) ?_ rfl (by (repeat' (first | exact trivial | exact rfl | refine And.intro ?_ ?_)) <;> (try first | omega | (simp; done))) (by (repeat' (first | exact trivial | exact rfl | refine And.intro ?_ ?_)) <;> (try first | omega | (simp; done)))
      rintro v r ⟨y, a4, s4, rfl, y0, y1, e_a4, g_a4, rfl⟩
      conv => whnf
      obtain ⟨i, rfl, hi⟩ := nat_of (len := 4) y0 (by omega)
      refine ⟨i, rfl, hi, ?_⟩
      conv => whnf
      have h_y : 0 ≤ (((((List.replicate 4 (0 : Int)).set 0 0).set 1 4).set 2 2).set 3 4611686018427387904).getD i 0 ∧ (((((List.replicate 4 (0 : Int)).set 0 0).set 1 4).set 2 2).set 3 4611686018427387904).getD i 0 ≤ 4611686018427387904 := among_in (by kernel_rfl) hi
      generalize (((((List.replicate 4 (0 : Int)).set 0 0).set 1 4).set 2 2).set 3 4611686018427387904).getD i 0 = y at h_y ⊢
      refine ⟨rfl, ?_⟩
      conv => whnf
      clear y0 y1 hi
      exact ⟨x, y, a4, s4, rfl, by unfold InR; omega, by unfold InR; omega, by omega, by omega, rfl⟩
    · conv => whnf
      refine ACallS.tmut 0 (pick_spec code hc a2 s2 (by omega) 3 (by omega) (by omega)) ?_ rfl (by (repeat' (first | exact trivial | exact rfl | refine And.intro ?_ ?_)) <;> (try first | omega | (simp; done))) (by (repeat' (first | exact trivial | exact rfl | refine And.intro ?_ ?_)) <;> (try first | omega | (simp; done)))
      rintro v r ⟨x, a3, s3, rfl, l_x, u_x, e_a3, g_a3, rfl⟩
      conv => whnf
      refine ACallS.tmut 0 (pick_spec code hc a3 s3 (by omega) 3 (by omega) (by omega)) ?_ rfl (by (repeat' (first | exact trivial | exact rfl | refine And.intro ?_ ?_)) <;> (try first | omega | (simp; done))) (by (repeat' (first | exact trivial | exact rfl | refine And.intro ?_ ?_)) <;> (try first | omega | (simp; done)))
      rintro v r ⟨y, a4, s4, rfl, l_y, u_y, e_a4, g_a4, rfl⟩
      conv => whnf
      exact ⟨_, _, a4, s4, rfl, W_inr _, W_inr _, by omega, by omega, rfl⟩

end Go.Proofs.Ytkomndcehdneaaa
