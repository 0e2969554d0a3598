/- Lists of texts: a text into a rising list, lists put together. No condition. -/
import Derived.Test.YtdnlhicbjhgjiaaGreatDoorZA
import Derived.Test.YtdnlhicbjhgjiaaGreatDoorVxQ
namespace Go.Proofs.YtdnlhicbjhgjiaaGreatDoor
open Go Go.Vx
set_option maxRecDepth 100000

variable {S : BS} {K : Value → Heap → Prop} {X : List PanicEntry → Heap → Prop} {h : Heap}

theorem insert_shift {a : Option Addr} {n c p : Nat} {s : ByteArray} {xs : List ByteArray} {x1 x2 : Value} {ht : Heap} {vt : Value} (hg : Grown eStr S ht vt h (.slice a n c) (xs ++ [⟨#[]⟩])) (hn : xs.length ≤ 1000000000) (hp : p ≤ xs.length)
    (hK : ∀ a' n' c' h', Grown eStr S ht vt h' (.slice a' n' c') (xs.take p ++ s :: xs.drop p) → K (.slice a' n' c') h') :
    VSem Tryz.prog fc23 (cd Tryz.f23 29) [(0, .slice a n c), (1, .string s), (5, .int .i64 p), (6, .int .i64 xs.length), (18, x1), (32, x2)] h (vcBlock 2 (vcThen (fun r h => vcCode Tryz.prog fc23 (cd Tryz.f23 40) r h (vcPost Tryz.prog (Array.toList (Func.results Tryz.f23)) K X)) (vcPost Tryz.prog (Array.toList (Func.results Tryz.f23)) K X))) := by
  refine loop_sem mixed (α := Nat) (fun k => [(0, .slice a n c), (1, .string s), (5, .int .i64 p), (6, .int .i64 k)]) (fun k h' => p ≤ k ∧ k ≤ xs.length ∧ ∃ z, Grown eStr S ht vt h' (.slice a n c) (xs.take k ++ z :: xs.drop k))
    (fun k _ => k) xs.length (by kernel_rfl) ⟨rfl, rfl, rfl, rfl, trivial⟩ ⟨hp, Nat.le_refl _, ⟨#[]⟩, by simpa using hg⟩ ?_
  rintro k h' ⟨hpk, hk, z, hz⟩
  have hlen : (xs.take k ++ z :: xs.drop k).length = xs.length + 1 := by simp; omega
  obtain ⟨b, rfl, rfl, hrd, hwr⟩ := hz.own.openS (by simp)
  refine Wrap.mk ?_; refine kmp (B := iteB (decide ((↑k : Int) > (↑p : Int))) (∃ (n : Int), Wr IntKind.i64 ((↑k : Int) - 1) n ∧ ∃ (b_1 : Nat), ∃ (o : Nat), ∃ (j : Nat), some (Addr.mk b 0 none) = some (Addr.mk b_1 o none) ∧ n = (↑j : Int) ∧ j < List.length (List.take k xs ++ z :: List.drop k xs) ∧ ∃ (x : ByteArray), cellAt h' b_1 (o + j) = some (Value.string x) ∧ ∃ (b_2 : Nat), ∃ (o : Nat), ∃ (j : Nat), some (Addr.mk b 0 none) = some (Addr.mk b_2 o none) ∧ (↑k : Int) = (↑j : Int) ∧ j < List.length (List.take k xs ++ z :: List.drop k xs) ∧ Writable h' b_2 (o + j) 1 ∧ ∀ (h'_1 : Heap), h'_1 = setCells h' b_2 (o + j) [Value.string x] → ∃ (n : Int), Wr IntKind.i64 ((↑k : Int) - 1) n ∧ ∃ (x' : Nat), (Value.slice (some (Addr.mk b 0 none)) (List.length (List.take k xs ++ z :: List.drop k xs)) c = Value.slice (some (Addr.mk b 0 none)) (List.length (List.take k xs ++ z :: List.drop k xs)) c ∧ Value.string s = Value.string s ∧ Value.int IntKind.i64 (↑p : Int) = Value.int IntKind.i64 (↑p : Int) ∧ Value.int IntKind.i64 n = Value.int IntKind.i64 (↑x' : Int) ∧ True) ∧ (p ≤ x' ∧ x' ≤ List.length xs ∧ ∃ (z_1 : ByteArray), Grown eStr S ht vt h'_1 (Value.slice (some (Addr.mk b 0 none)) (List.length (List.take k xs ++ z :: List.drop k xs)) c) (List.take x' xs ++ z_1 :: List.drop x' xs)) ∧ x' < k) (∃ (b_1 : Nat), ∃ (o : Nat), ∃ (j : Nat), some (Addr.mk b 0 none) = some (Addr.mk b_1 o none) ∧ (↑p : Int) = (↑j : Int) ∧ j < List.length (List.take k xs ++ z :: List.drop k xs) ∧ Writable h' b_1 (o + j) 1 ∧ ∀ (h'_1 : Heap), h'_1 = setCells h' b_1 (o + j) [Value.string s] → K (Value.slice (some (Addr.mk b 0 none)) (List.length (List.take k xs ++ z :: List.drop k xs)) c) h'_1)) (by kernel_rfl) ?_
  refine iteB_in (fun hlt => ?_) (fun hge => ?_)
  · have hlt : p < k := by simpa using hlt
    refine ⟨_, wrI (by omega) (by omega), b, 0, k - 1, rfl, by omega, by omega, _, hrd _ (by omega), b, 0, k, rfl, rfl, by omega, ?_⟩
    obtain ⟨hw, hg'⟩ := hwr k (by omega) ((xs.take k ++ z :: xs.drop k)[k - 1]'(by omega))
    refine ⟨hw, ?_⟩
    rintro h'' rfl
    refine ⟨_, wrI (by omega) (by omega), k - 1, ⟨rfl, rfl, rfl, by rw [show ((k - 1 : Nat) : Int) = (k : Int) - 1 from by omega], trivial⟩, ⟨by omega, by omega, xs[k - 1], ?_⟩, by omega⟩
    have hg2 := hz.trans hg'
    have e : (xs.take k ++ z :: xs.drop k).set k ((xs.take k ++ z :: xs.drop k)[k - 1]'(by omega)) = xs.take (k - 1) ++ xs[k - 1] :: xs.drop (k - 1) := by
      have h1 : (xs.take k ++ z :: xs.drop k)[k - 1]'(by omega) = xs[k - 1] := by
        rw [List.getElem_append_left (by simp; omega)]; simp
      rw [h1, set_mid _ _ _ _ (by rw [List.length_take]; omega)]
      have h2 : xs.take k = xs.take (k - 1) ++ [xs[k - 1]] := by
        have := List.take_succ_eq_append_getElem (l := xs) (i := k - 1) (by omega)
        rw [show k - 1 + 1 = k from by omega] at this; exact this
      have h3 : xs.drop (k - 1) = xs[k - 1] :: xs.drop k := by
        have := List.drop_eq_getElem_cons (l := xs) (i := k - 1) (by omega)
        rw [show k - 1 + 1 = k from by omega] at this; exact this
      rw [h2, h3, List.append_assoc]; rfl
    rw [e] at hg2
    exact hg2
  · have hge : k = p := by simp at hge; omega
    subst hge
    refine ⟨b, 0, k, rfl, rfl, by omega, ?_⟩
    obtain ⟨hw, hg'⟩ := hwr k (by omega) s
    refine ⟨hw, ?_⟩
    rintro h'' rfl
    refine hK _ _ _ _ ?_
    have hg2 := hz.trans hg'
    rw [set_mid _ _ _ _ (by rw [List.length_take]; omega)] at hg2
    exact hg2

theorem insert_spec {a : Option Addr} {n c : Nat} {s : ByteArray} {xs : List ByteArray} (ho : Own eStr S h (.slice a n c) xs) (hS : ∀ b, S b → b < h.size) (hn : xs.length ≤ 1000000000)
    (hK : ∀ a' n' c' h', Grown eStr S h (.slice a n c) h' (.slice a' n' c') (ins xs s) → K (.slice a' n' c') h') : CallK Tryz.prog 23 [.slice a n c, .string s] h K X := by
  obtain ⟨_, _, hf, _⟩ := ho.form
  cases hf
  have hl := ho.slA hS
  refine callK_of_vc fc23 mixed Tryz.func23 ok23 (Nat.le_of_ble_eq_true rfl) ?_
  refine kmp (B := VSem Tryz.prog fc23 (cd Tryz.f23 6) [(0, Value.slice a (List.length xs) c), (1, Value.string s), (4, Value.slice none 0 0), (5, Value.int IntKind.i64 0)] h (vcBlock 0 (vcThen (fun (r : Regs) (h : Heap) => vcCode Tryz.prog fc23 (cd Tryz.f23 15) r h (vcPost Tryz.prog (Array.toList (Func.results Tryz.f23)) K X)) (vcPost Tryz.prog (Array.toList (Func.results Tryz.f23)) K X)))) (by kernel_rfl) ?_ -- ENTERED
  refine loop_sem mixed (α := Nat) (fun i => [(0, .slice a xs.length c), (1, .string s), (5, .int .i64 i)]) (fun i h' => h' = h ∧ i ≤ xs.length ∧ ∀ j (hj : j < i) (hx : j < xs.length), key xs[j] < key s)
    (fun i _ => xs.length - i) 0 (by kernel_rfl) ⟨rfl, rfl, rfl, trivial⟩ ⟨rfl, Nat.zero_le _, fun j hj => by omega⟩ ?_
  rintro i h ⟨rfl, hi, hb⟩
  have hmake : ∀ {x1 x2 : Value}, ins xs s = xs.take i ++ s :: xs.drop i → ∀ (b : Nat) (h' : Array Obj), b = Array.size h → h' = Array.push h (Obj.cells #[Value.string { data := #[] }] 9) → AppK 9 1 16 [Value.string { data := #[] }] (Value.slice a xs.length c) (Value.slice (some { block := b, off := 0 }) 1 1) h' fun (a : Option Addr) (n c : Nat) (h : Heap) => ∃ (n_1 : Int), Wr IntKind.i64 ((↑n : Int) - 1) n_1 ∧ VSem Tryz.prog fc23 (cd Tryz.f23 29) [(0, Value.slice a n c), (1, Value.string s), (5, Value.int IntKind.i64 (↑i : Int)), (6, Value.int IntKind.i64 n_1), (18, x1), (32, x2)] h (vcBlock 2 (vcThen (fun (r : Regs) (h : Heap) => vcCode Tryz.prog fc23 (cd Tryz.f23 40) r h (vcPost Tryz.prog (Array.toList (Func.results Tryz.f23)) K X)) (vcPost Tryz.prog (Array.toList (Func.results Tryz.f23)) K X))) := by
    intro x1 x2 hins
    refine ho.app hS (css := [[.string ⟨#[]⟩]]) (ys := [(⟨#[]⟩ : ByteArray)]) ⟨rfl, trivial⟩ rfl rfl rfl (by simp; omega) (by simp; omega) fun a2 n2 c2 h2 hn2 hg => ?_
    have hn3 : n2 = xs.length + 1 := by simpa using hn2
    refine ⟨xs.length, wrI' (by omega) (by omega) (by omega), insert_shift hg hn hi fun a' n' c' h' hg' => hK a' n' c' h' ?_⟩
    rw [hins]; exact hg'
  refine Wrap.mk ?_; refine kmp (B := iteB (decide ((↑i : Int) < (↑(List.length xs) : Int))) (∃ (b : Nat), ∃ (o : Nat), ∃ (j : Nat), a = some (Addr.mk b o none) ∧ (↑i : Int) = (↑j : Int) ∧ j < List.length xs ∧ ∃ (x : ByteArray), cellAt h b (o + j) = some (Value.string x) ∧ iteB (strLt x s) (∃ (n : Int), Wr IntKind.i64 ((↑i : Int) + 1) n ∧ ∃ (x' : Nat), (Value.slice a (List.length xs) c = Value.slice a (List.length xs) c ∧ Value.string s = Value.string s ∧ Value.int IntKind.i64 n = Value.int IntKind.i64 (↑x' : Int) ∧ True) ∧ (h = h ∧ x' ≤ List.length xs ∧ ∀ (j : Nat), j < x' → ∀ (hx : j < List.length xs), key xs[j] < key s) ∧ List.length xs - x' < List.length xs - i) (iteB (decide ((↑i : Int) < (↑(List.length xs) : Int))) (∃ (b : Nat), ∃ (o : Nat), ∃ (j : Nat), a = some (Addr.mk b o none) ∧ (↑i : Int) = (↑j : Int) ∧ j < List.length xs ∧ ∃ (x_1 : ByteArray), cellAt h b (o + j) = some (Value.string x_1) ∧ iteB (strEq x_1 s) (K (Value.slice a (List.length xs) c) h) (∀ (b : Nat) (h' : Array Obj), b = Array.size h → h' = Array.push h (Obj.cells #[Value.string (ByteArray.mk #[])] 9) → AppK 9 1 16 [Value.string (ByteArray.mk #[])] (Value.slice a (List.length xs) c) (Value.slice (some (Addr.mk b 0 none)) 1 1) h' fun (a : Option Addr) (n c : Nat) (h : Heap) => ∃ (n_1 : Int), Wr IntKind.i64 ((↑n : Int) - 1) n_1 ∧ VSem Tryz.prog fc23 (cd Tryz.f23 29) [(0, Value.slice a n c), (1, Value.string s), (5, Value.int IntKind.i64 (↑i : Int)), (6, Value.int IntKind.i64 n_1), (18, Value.bool (strLt x s)), (32, Value.bool (strEq x_1 s))] h (vcBlock 2 (vcThen (fun (r : Regs) (h : Heap) => vcCode Tryz.prog fc23 (cd Tryz.f23 40) r h (vcPost Tryz.prog (Array.toList (Func.results Tryz.f23)) K X)) (vcPost Tryz.prog (Array.toList (Func.results Tryz.f23)) K X))))) (∀ (b : Nat) (h' : Array Obj), b = Array.size h → h' = Array.push h (Obj.cells #[Value.string (ByteArray.mk #[])] 9) → AppK 9 1 16 [Value.string (ByteArray.mk #[])] (Value.slice a (List.length xs) c) (Value.slice (some (Addr.mk b 0 none)) 1 1) h' fun (a : Option Addr) (n c : Nat) (h : Heap) => ∃ (n_1 : Int), Wr IntKind.i64 ((↑n : Int) - 1) n_1 ∧ VSem Tryz.prog fc23 (cd Tryz.f23 29) [(0, Value.slice a n c), (1, Value.string s), (5, Value.int IntKind.i64 (↑i : Int)), (6, Value.int IntKind.i64 n_1), (18, Value.bool (strLt x s)), (32, Value.bool false)] h (vcBlock 2 (vcThen (fun (r : Regs) (h : Heap) => vcCode Tryz.prog fc23 (cd Tryz.f23 40) r h (vcPost Tryz.prog (Array.toList (Func.results Tryz.f23)) K X)) (vcPost Tryz.prog (Array.toList (Func.results Tryz.f23)) K X)))))) (iteB (decide ((↑i : Int) < (↑(List.length xs) : Int))) (∃ (b : Nat), ∃ (o : Nat), ∃ (j : Nat), a = some (Addr.mk b o none) ∧ (↑i : Int) = (↑j : Int) ∧ j < List.length xs ∧ ∃ (x : ByteArray), cellAt h b (o + j) = some (Value.string x) ∧ iteB (strEq x s) (K (Value.slice a (List.length xs) c) h) (∀ (b : Nat) (h' : Array Obj), b = Array.size h → h' = Array.push h (Obj.cells #[Value.string (ByteArray.mk #[])] 9) → AppK 9 1 16 [Value.string (ByteArray.mk #[])] (Value.slice a (List.length xs) c) (Value.slice (some (Addr.mk b 0 none)) 1 1) h' fun (a : Option Addr) (n c : Nat) (h : Heap) => ∃ (n_1 : Int), Wr IntKind.i64 ((↑n : Int) - 1) n_1 ∧ VSem Tryz.prog fc23 (cd Tryz.f23 29) [(0, Value.slice a n c), (1, Value.string s), (5, Value.int IntKind.i64 (↑i : Int)), (6, Value.int IntKind.i64 n_1), (18, Value.bool false), (32, Value.bool (strEq x s))] h (vcBlock 2 (vcThen (fun (r : Regs) (h : Heap) => vcCode Tryz.prog fc23 (cd Tryz.f23 40) r h (vcPost Tryz.prog (Array.toList (Func.results Tryz.f23)) K X)) (vcPost Tryz.prog (Array.toList (Func.results Tryz.f23)) K X))))) (∀ (b : Nat) (h' : Array Obj), b = Array.size h → h' = Array.push h (Obj.cells #[Value.string (ByteArray.mk #[])] 9) → AppK 9 1 16 [Value.string (ByteArray.mk #[])] (Value.slice a (List.length xs) c) (Value.slice (some (Addr.mk b 0 none)) 1 1) h' fun (a : Option Addr) (n c : Nat) (h : Heap) => ∃ (n_1 : Int), Wr IntKind.i64 ((↑n : Int) - 1) n_1 ∧ VSem Tryz.prog fc23 (cd Tryz.f23 29) [(0, Value.slice a n c), (1, Value.string s), (5, Value.int IntKind.i64 (↑i : Int)), (6, Value.int IntKind.i64 n_1), (18, Value.bool false), (32, Value.bool false)] h (vcBlock 2 (vcThen (fun (r : Regs) (h : Heap) => vcCode Tryz.prog fc23 (cd Tryz.f23 40) r h (vcPost Tryz.prog (Array.toList (Func.results Tryz.f23)) K X)) (vcPost Tryz.prog (Array.toList (Func.results Tryz.f23)) K X)))))) (by kernel_rfl) ?_
  refine iteB_in (fun hlt => ?_) (fun hge => ?_)
  · have hlt : i < xs.length := by simpa using hlt
    obtain ⟨b, o, rfl, _, hcell⟩ := hl.atS hlt
    refine ⟨b, o, i, rfl, rfl, hlt, _, hcell, iteB_in (fun hc => ?_) (fun hc => ?_)⟩
    · refine ⟨_, wrI (by omega) (by omega), i + 1, ⟨rfl, rfl, rfl, trivial⟩, ⟨rfl, hlt, fun j hj hx => ?_⟩, by omega⟩
      rcases Nat.lt_succ_iff_lt_or_eq.1 hj with h1 | rfl
      · exact hb j h1 hx
      · exact strLt_iff.1 hc
    · have hc := strLt_false.1 hc
      refine iteB_in (fun _ => ?_) (fun hn => by simp at hn; omega)
      refine ⟨b, o, i, rfl, rfl, hlt, _, hcell, iteB_in (fun he => ?_) (fun hne => ?_)⟩
      · refine hK _ _ _ _ ?_
        rw [ins_same hlt (fun j hj => hb j hj (by omega)) (strEq_iff.1 he)]
        exact Grown.rfl ho
      · exact hmake (ins_new hi (fun j hj => hb j hj (by omega)) fun _ => ⟨hc, strEq_false.1 hne⟩)
  · have hge : ¬ i < xs.length := by simpa using hge
    refine iteB_in (fun hn => by simp at hn; omega) (fun _ => ?_)
    exact hmake (ins_new hi (fun j hj => hb j hj (by omega)) fun hh => absurd hh hge)

end Go.Proofs.YtdnlhicbjhgjiaaGreatDoor
