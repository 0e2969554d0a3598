/- Lists of texts: functions that only read. No condition. -/
import Derived.Test.YtdnlhicbjhgjiaaGreatDoorZFc
import Derived.Test.YtdnlhicbjhgjiaaGreatDoorVxR
namespace Go.Proofs.YtdnlhicbjhgjiaaGreatDoor
open Go Go.Vx
set_option maxRecDepth 100000

variable {S : BS} {K : Value → Heap → Prop} {X : List PanicEntry → Heap → Prop} {h : Heap}

theorem place_spec {l : Value} {xs : List ByteArray} {s : ByteArray} (hl : Sl eStr S h l xs) (hn : xs.length ≤ 4611686018427387904)
    (hK : K (.int .i64 (posOf xs s)) h) : CallK Tryz.prog 22 [l, .string s] h K X := by
  obtain ⟨a, c, rfl, hc⟩ := hl.form
  refine callK_of_vc fc22 mixed Tryz.func22 ok22 (Nat.le_of_ble_eq_true rfl) ?_
  refine kmp (B := VSem Tryz.prog fc22 (cd Tryz.f22 6) [(0, Value.slice a (List.length xs) c), (1, Value.string s), (4, Value.int IntKind.i64 0), (5, Value.int IntKind.i64 0)] h (vcBlock 0 (vcThen (fun (r : Regs) (h : Heap) => vcCode Tryz.prog fc22 (cd Tryz.f22 23) r h (vcPost Tryz.prog (Array.toList (Func.results Tryz.f22)) K X)) (vcPost Tryz.prog (Array.toList (Func.results Tryz.f22)) K X)))) (by kernel_rfl) ?_ -- ENTERED
  refine loop_sem mixed (α := Nat) (fun i => [(0, .slice a xs.length c), (1, .string s), (5, .int .i64 i)]) (fun i h' => h' = h ∧ i ≤ xs.length ∧ ∀ j (hj : j < i) (hx : j < xs.length), xs[j] ≠ s)
    (fun i _ => xs.length - i) 0 (by kernel_rfl) ⟨rfl, rfl, rfl, trivial⟩ ⟨rfl, Nat.zero_le _, fun j hj => by omega⟩ ?_
  rintro i h ⟨rfl, hi, hb⟩
  refine Wrap.mk ?_; refine kmp (B := iteB (decide ((↑i : Int) < (↑(List.length xs) : Int))) (∃ (b : Nat), ∃ (o : Nat), ∃ (j : Nat), a = some (Addr.mk b o none) ∧ (↑i : Int) = (↑j : Int) ∧ j < List.length xs ∧ ∃ (x : ByteArray), cellAt h b (o + j) = some (Value.string x) ∧ iteB (strEq x s) (K (Value.int IntKind.i64 (↑i : Int)) h) (∃ (n : Int), Wr IntKind.i64 ((↑i : Int) + 1) n ∧ ∃ (x' : Nat), (Value.slice a (List.length xs) c = Value.slice a (List.length xs) c ∧ Value.string s = Value.string s ∧ Value.int IntKind.i64 n = Value.int IntKind.i64 (↑x' : Int) ∧ True) ∧ (h = h ∧ x' ≤ List.length xs ∧ ∀ (j : Nat), j < x' → ∀ (hx : j < List.length xs), xs[j] ≠ s) ∧ List.length xs - x' < List.length xs - i)) (K (Value.int IntKind.i64 (-1)) h)) (by kernel_rfl) ?_
  refine iteB_in (fun hlt => ?_) (fun hge => ?_)
  · have hlt : i < xs.length := by simpa using hlt
    obtain ⟨b, o, rfl, _, hcell⟩ := hl.atS hlt
    refine ⟨b, o, i, rfl, rfl, hlt, _, hcell, iteB_in (fun he => ?_) (fun hne => ?_)⟩
    · have he := strEq_iff.1 he
      rw [posOf_at hlt he (fun j hj => hb j hj (Nat.lt_trans hj hlt))] at hK
      exact hK
    · have hne : xs[i] ≠ s := fun e => by rw [strEq_iff.2 e] at hne; cases hne
      refine ⟨_, wrI (by omega) (by omega), i + 1, ⟨rfl, rfl, rfl, trivial⟩, ⟨rfl, hlt, fun j hj hx => ?_⟩, by omega⟩
      rcases Nat.lt_succ_iff_lt_or_eq.1 hj with h1 | rfl
      · exact hb j h1 hx
      · exact hne
  · have hge : ¬ i < xs.length := by simpa using hge
    have : s ∉ xs := by
      intro hs
      obtain ⟨j, hj, he⟩ := List.getElem_of_mem hs
      exact hb j (by omega) hj he
    rw [posOf_neg this] at hK
    exact hK

theorem index_spec {l : Value} {xs : List ByteArray} {s : ByteArray} (hl : Sl eStr S h l xs) (hn : xs.length ≤ 4611686018427387904)
    (hK : K (.int .i64 (posOf xs s)) h) : CallK Tryz.prog 50 [l, .string s] h K X := by
  obtain ⟨a, c, rfl, hc⟩ := hl.form
  refine callK_of_vc fc50 mixed Tryz.func50 ok50 (Nat.le_of_ble_eq_true rfl) ?_
  refine kmp (B := VSem Tryz.prog fc50 (cd Tryz.f50 6) [(0, Value.slice a (List.length xs) c), (1, Value.string s), (4, Value.int IntKind.i64 0), (7, Value.int IntKind.i64 (↑(List.length xs) : Int)), (8, Value.int IntKind.i64 0)] h (vcBlock 0 (vcThen (fun (r : Regs) (h : Heap) => vcCode Tryz.prog fc50 (cd Tryz.f50 25) r h (vcPost Tryz.prog (Array.toList (Func.results Tryz.f50)) K X)) (vcPost Tryz.prog (Array.toList (Func.results Tryz.f50)) K X)))) (by kernel_rfl) ?_ -- ENTERED
  refine loop_sem mixed (α := Nat) (fun i => [(0, .slice a xs.length c), (1, .string s), (7, .int .i64 xs.length), (8, .int .i64 i)]) (fun i h' => h' = h ∧ i ≤ xs.length ∧ ∀ j (hj : j < i) (hx : j < xs.length), xs[j] ≠ s)
    (fun i _ => xs.length - i) 0 (by kernel_rfl) ⟨rfl, rfl, rfl, rfl, trivial⟩ ⟨rfl, Nat.zero_le _, fun j hj => by omega⟩ ?_
  rintro i h ⟨rfl, hi, hb⟩
  refine Wrap.mk ?_; refine kmp (B := iteB (decide ((↑i : Int) < (↑(List.length xs) : Int))) (∃ (b : Nat), ∃ (o : Nat), ∃ (j : Nat), a = some (Addr.mk b o none) ∧ (↑i : Int) = (↑j : Int) ∧ j < List.length xs ∧ ∃ (x : ByteArray), cellAt h b (o + j) = some (Value.string x) ∧ iteB (strEq s x) (K (Value.int IntKind.i64 (↑i : Int)) h) (∃ (n : Int), Wr IntKind.i64 ((↑i : Int) + 1) n ∧ ∃ (x' : Nat), (Value.slice a (List.length xs) c = Value.slice a (List.length xs) c ∧ Value.string s = Value.string s ∧ Value.int IntKind.i64 (↑(List.length xs) : Int) = Value.int IntKind.i64 (↑(List.length xs) : Int) ∧ Value.int IntKind.i64 n = Value.int IntKind.i64 (↑x' : Int) ∧ True) ∧ (h = h ∧ x' ≤ List.length xs ∧ ∀ (j : Nat), j < x' → ∀ (hx : j < List.length xs), xs[j] ≠ s) ∧ List.length xs - x' < List.length xs - i)) (K (Value.int IntKind.i64 (-1)) h)) (by kernel_rfl) ?_
  refine iteB_in (fun hlt => ?_) (fun hge => ?_)
  · have hlt : i < xs.length := by simpa using hlt
    obtain ⟨b, o, rfl, _, hcell⟩ := hl.atS hlt
    refine ⟨b, o, i, rfl, rfl, hlt, _, hcell, iteB_in (fun he => ?_) (fun hne => ?_)⟩
    · have he := (strEq_iff.1 he).symm
      rw [posOf_at hlt he (fun j hj => hb j hj (Nat.lt_trans hj hlt))] at hK
      exact hK
    · have hne : xs[i] ≠ s := fun e => by rw [strEq_iff.2 e.symm] at hne; cases hne
      refine ⟨_, wrI (by omega) (by omega), i + 1, ⟨rfl, rfl, rfl, rfl, trivial⟩, ⟨rfl, hlt, fun j hj hx => ?_⟩, by omega⟩
      rcases Nat.lt_succ_iff_lt_or_eq.1 hj with h1 | rfl
      · exact hb j h1 hx
      · exact hne
  · have hge : ¬ i < xs.length := by simpa using hge
    have : s ∉ xs := by
      intro hs
      obtain ⟨j, hj, he⟩ := List.getElem_of_mem hs
      exact hb j (by omega) hj he
    rw [posOf_neg this] at hK
    exact hK

theorem contains_spec {l : Value} {xs : List ByteArray} {s : ByteArray} (hl : Sl eStr S h l xs) (hn : xs.length ≤ 4611686018427387904)
    (hK : K (.bool (memB xs s)) h) : CallK Tryz.prog 26 [l, .string s] h K X := by
  refine callK_of_vc fc26 mixed Tryz.func26 ok26 (Nat.le_of_ble_eq_true rfl) ?_
  refine kmp (B := CallK Tryz.prog 50 [l, Value.string s] h (fun (v : Value) (h : Heap) => ∃ (x : Int), v = Value.int IntKind.i64 x ∧ K (Value.bool (decide (x ≥ 0))) h) fun (ch : List PanicEntry) (h : Heap) => X ch h) (by kernel_rfl) ?_ -- ENTERED
  exact index_spec hl hn ⟨_, rfl, hK⟩

theorem has_spec {l : Value} {xs : List ByteArray} {s : ByteArray} (hl : Sl eStr S h l xs) (hn : xs.length ≤ 4611686018427387904)
    (hK : K (.bool (memB xs s)) h) : CallK Tryz.prog 7 [l, .string s] h K X := by
  refine callK_of_vc fc7 mixed Tryz.func7 ok7 (Nat.le_of_ble_eq_true rfl) ?_
  refine kmp (B := CallK Tryz.prog 22 [l, Value.string s] h (fun (v : Value) (h : Heap) => ∃ (x : Int), v = Value.int IntKind.i64 x ∧ K (Value.bool (decide (x ≥ 0))) h) fun (ch : List PanicEntry) (h : Heap) => X ch h) (by kernel_rfl) ?_ -- ENTERED
  exact place_spec hl hn ⟨_, rfl, hK⟩

theorem within1_spec {l : Value} {xs : List ByteArray} {s : ByteArray} {b o : Nat} (hl : Sl eStr S h l xs) (hn : xs.length ≤ 4611686018427387904) (hb : cellAt h b o = some l)
    (hK : K (.bool (!memB xs s)) h) : CallK Tryz.prog 25 [.string s, .pointer (some ⟨b, o, none⟩)] h K X := by
  obtain ⟨a, c, rfl, hc⟩ := hl.form
  refine callK_of_vc fc25 mixed Tryz.func25 ok25 (Nat.le_of_ble_eq_true rfl) ?_
  refine kmp (B := ∃ (a : Option Addr), ∃ (n : Nat), ∃ (c : Nat), cellAt h b o = some (Value.slice a n c) ∧ CallK Tryz.prog 26 [Value.slice a n c, Value.string s] h (fun (v : Value) (h : Heap) => ∃ (x : Bool), v = Value.bool x ∧ K (Value.bool !x) h) fun (ch : List PanicEntry) (h : Heap) => X ch h) (by kernel_rfl) ?_ -- ENTERED
  exact ⟨a, _, c, hb, contains_spec hl hn ⟨_, rfl, hK⟩⟩

theorem indexf_spec {l : Value} {xs : List ByteArray} {k : Nat} {cv : Value} {p : ByteArray → Bool} (hl : Sl eStr S h l xs) (hn : xs.length ≤ 4611686018427387904)
    (hf : ∀ s (K' : Value → Heap → Prop), K' (.bool (p s)) h → CallK Tryz.prog k [.string s, cv] h K' X)
    (hK : ∀ i : Int, decide (0 ≤ i) = xs.any p → K (.int .i64 i) h) : CallK Tryz.prog 49 [l, .func (.func k) #[] #[cv]] h K X := by
  obtain ⟨a, c, rfl, hc⟩ := hl.form
  refine callK_of_vc fc49 mixed Tryz.func49 ok49 (Nat.le_of_ble_eq_true rfl) ?_
  refine kmp (B := VSem Tryz.prog fc49 (cd Tryz.f49 6) [(0, Value.slice a (List.length xs) c), (1, Value.func (Fn.func k) #[] #[cv]), (4, Value.int IntKind.i64 0), (7, Value.int IntKind.i64 (↑(List.length xs) : Int)), (8, Value.int IntKind.i64 0)] h (vcBlock 0 (vcThen (fun (r : Regs) (h : Heap) => vcCode Tryz.prog fc49 (cd Tryz.f49 25) r h (vcPost Tryz.prog (Array.toList (Func.results Tryz.f49)) K X)) (vcPost Tryz.prog (Array.toList (Func.results Tryz.f49)) K X)))) (by kernel_rfl) ?_ -- ENTERED
  refine loop_sem mixed (α := Nat) (fun i => [(0, .slice a xs.length c), (1, .func (.func k) #[] #[cv]), (7, .int .i64 xs.length), (8, .int .i64 i)]) (fun i h' => h' = h ∧ i ≤ xs.length ∧ ∀ j (hj : j < i) (hx : j < xs.length), p xs[j] = false)
    (fun i _ => xs.length - i) 0 (by kernel_rfl) ⟨rfl, rfl, rfl, rfl, trivial⟩ ⟨rfl, Nat.zero_le _, fun j hj => by omega⟩ ?_
  rintro i h ⟨rfl, hi, hb⟩
  refine Wrap.mk ?_; refine kmp (B := iteB (decide ((↑i : Int) < (↑(List.length xs) : Int))) (∃ (b : Nat), ∃ (o : Nat), ∃ (j : Nat), a = some (Addr.mk b o none) ∧ (↑i : Int) = (↑j : Int) ∧ j < List.length xs ∧ ∃ (x : ByteArray), cellAt h b (o + j) = some (Value.string x) ∧ CallK Tryz.prog k [Value.string x, cv] h (fun (v : Value) (h_1 : Heap) => ∃ (x : Bool), v = Value.bool x ∧ iteB x (K (Value.int IntKind.i64 (↑i : Int)) h_1) (∃ (n : Int), Wr IntKind.i64 ((↑i : Int) + 1) n ∧ ∃ (x' : Nat), (Value.slice a (List.length xs) c = Value.slice a (List.length xs) c ∧ Value.func (Fn.func k) #[] #[cv] = Value.func (Fn.func k) #[] #[cv] ∧ Value.int IntKind.i64 (↑(List.length xs) : Int) = Value.int IntKind.i64 (↑(List.length xs) : Int) ∧ Value.int IntKind.i64 n = Value.int IntKind.i64 (↑x' : Int) ∧ True) ∧ (h_1 = h ∧ x' ≤ List.length xs ∧ ∀ (j : Nat), j < x' → ∀ (hx : j < List.length xs), p xs[j] = false) ∧ List.length xs - x' < List.length xs - i)) fun (ch : List PanicEntry) (h : Heap) => X ch h) (K (Value.int IntKind.i64 (-1)) h)) (by kernel_rfl) ?_
  refine iteB_in (fun hlt => ?_) (fun hge => ?_)
  · have hlt : i < xs.length := by simpa using hlt
    obtain ⟨b, o, rfl, _, hcell⟩ := hl.atS hlt
    refine ⟨b, o, i, rfl, rfl, hlt, _, hcell, hf _ _ ⟨_, rfl, iteB_in (fun he => ?_) (fun hne => ?_)⟩⟩
    · exact hK _ (by rw [List.any_eq_true.2 ⟨xs[i], List.getElem_mem hlt, he⟩]; simp)
    · refine ⟨_, wrI (by omega) (by omega), i + 1, ⟨rfl, rfl, rfl, rfl, trivial⟩, ⟨rfl, hlt, fun j hj hx => ?_⟩, by omega⟩
      rcases Nat.lt_succ_iff_lt_or_eq.1 hj with h1 | rfl
      · exact hb j h1 hx
      · exact hne
  · have hge : ¬ i < xs.length := by simpa using hge
    refine hK _ ?_
    rw [List.any_eq_false.2 (fun x hx => by
      obtain ⟨j, hj, rfl⟩ := List.getElem_of_mem hx
      simp [hb j (by omega) hj])]
    rfl

theorem containsf_spec {l : Value} {xs : List ByteArray} {k : Nat} {cv : Value} {p : ByteArray → Bool} (hl : Sl eStr S h l xs) (hn : xs.length ≤ 4611686018427387904)
    (hf : ∀ s (K' : Value → Heap → Prop), K' (.bool (p s)) h → CallK Tryz.prog k [.string s, cv] h K' X)
    (hK : K (.bool (xs.any p)) h) : CallK Tryz.prog 24 [l, .func (.func k) #[] #[cv]] h K X := by
  refine callK_of_vc fc24 mixed Tryz.func24 ok24 (Nat.le_of_ble_eq_true rfl) ?_
  refine kmp (B := CallK Tryz.prog 49 [l, Value.func (Fn.func k) #[] #[cv]] h (fun (v : Value) (h : Heap) => ∃ (x : Int), v = Value.int IntKind.i64 x ∧ K (Value.bool (decide (x ≥ 0))) h) fun (ch : List PanicEntry) (h : Heap) => X ch h) (by kernel_rfl) ?_ -- ENTERED
  exact indexf_spec hl hn hf (fun i hi => ⟨_, rfl, by rw [show (decide (i ≥ 0)) = xs.any _ from hi]; exact hK⟩)

theorem fwithin_spec {l q : Value} {xs ys : List ByteArray} (hl : Sl eStr (Al h) h l xs) (hq : Sl eStr (Al h) h q ys) (hn : xs.length ≤ 4611686018427387904) (hm : ys.length ≤ 4611686018427387904)
    (hK : ∀ h', Ext (Al h) h h' → K (.bool (xs.all (memB ys))) h') : CallK Tryz.prog 10 [l, q] h K X := by
  obtain ⟨a, c, rfl, hc⟩ := hq.form
  refine callK_of_vc fc10 mixed Tryz.func10 ok10 (Nat.le_of_ble_eq_true rfl) ?_
  refine kmp (B := ∀ (b : Nat) (h' : Array Obj), b = Array.size h → h' = Array.push h (Obj.cells #[Value.slice a (List.length ys) c] 22) → CallK Tryz.prog 24 [l, Value.func (Fn.func 25) #[] #[Value.pointer (some (Addr.mk b 0 none))]] h' (fun (v : Value) (h : Heap) => ∃ (x : Bool), v = Value.bool x ∧ K (Value.bool !x) h) fun (ch : List PanicEntry) (h : Heap) => X ch h) (by kernel_rfl) ?_ -- ENTERED
  rintro b h1 rfl rfl
  have e := Ext.pushA (h := h) (o := .cells [Value.slice a ys.length c].toArray 22 (0, 0))
  refine containsf_spec (hl.ext e) hn (p := fun s => !memB ys s) (fun s K' hK' => within1_spec (hq.ext e) hm (Blk.push.cell) hK') ⟨_, rfl, ?_⟩
  have := hK _ e
  rw [show (!xs.any fun s => !memB ys s) = xs.all (memB ys) by simp [List.any_eq_not_all_not]]
  exact this

theorem rwithin_spec {l q : Value} {xs ys : List ByteArray} (hl : Sl eStr S h l xs) (hq : Sl eStr S h q ys) (hn : xs.length ≤ 4611686018427387904) (hm : ys.length ≤ 4611686018427387904)
    (hK : K (.bool (xs.all (memB ys))) h) : CallK Tryz.prog 11 [l, q] h K X := by
  obtain ⟨a, c, rfl, hc⟩ := hl.form
  refine callK_of_vc fc11 mixed Tryz.func11 ok11 (Nat.le_of_ble_eq_true rfl) ?_
  refine kmp (B := VSem Tryz.prog fc11 (cd Tryz.f11 6) [(0, Value.slice a (List.length xs) c), (1, q), (4, Value.bool false), (5, Value.int IntKind.i64 0)] h (vcBlock 0 (vcThen (fun (r : Regs) (h : Heap) => vcCode Tryz.prog fc11 (cd Tryz.f11 23) r h (vcPost Tryz.prog (Array.toList (Func.results Tryz.f11)) K X)) (vcPost Tryz.prog (Array.toList (Func.results Tryz.f11)) K X)))) (by kernel_rfl) ?_ -- ENTERED
  refine loop_sem mixed (α := Nat) (fun i => [(0, .slice a xs.length c), (1, q), (5, .int .i64 i)]) (fun i h' => h' = h ∧ i ≤ xs.length ∧ ∀ j (hj : j < i) (hx : j < xs.length), memB ys xs[j] = true)
    (fun i _ => xs.length - i) 0 (by kernel_rfl) ⟨rfl, rfl, rfl, trivial⟩ ⟨rfl, Nat.zero_le _, fun j hj => by omega⟩ ?_
  rintro i h ⟨rfl, hi, hb⟩
  refine Wrap.mk ?_; refine kmp (B := iteB (decide ((↑i : Int) < (↑(List.length xs) : Int))) (∃ (b : Nat), ∃ (o : Nat), ∃ (j : Nat), a = some (Addr.mk b o none) ∧ (↑i : Int) = (↑j : Int) ∧ j < List.length xs ∧ ∃ (x : ByteArray), cellAt h b (o + j) = some (Value.string x) ∧ CallK Tryz.prog 22 [q, Value.string x] h (fun (v : Value) (h_1 : Heap) => ∃ (x : Int), v = Value.int IntKind.i64 x ∧ iteB (decide (x < 0)) (K (Value.bool false) h_1) (∃ (n : Int), Wr IntKind.i64 ((↑i : Int) + 1) n ∧ ∃ (x' : Nat), (Value.slice a (List.length xs) c = Value.slice a (List.length xs) c ∧ q = q ∧ Value.int IntKind.i64 n = Value.int IntKind.i64 (↑x' : Int) ∧ True) ∧ (h_1 = h ∧ x' ≤ List.length xs ∧ ∀ (j : Nat), j < x' → ∀ (hx : j < List.length xs), memB ys xs[j] = true) ∧ List.length xs - x' < List.length xs - i)) fun (ch : List PanicEntry) (h : Heap) => X ch h) (K (Value.bool true) h)) (by kernel_rfl) ?_
  refine iteB_in (fun hlt => ?_) (fun hge => ?_)
  · have hlt : i < xs.length := by simpa using hlt
    obtain ⟨b, o, rfl, _, hcell⟩ := hl.atS hlt
    refine ⟨b, o, i, rfl, rfl, hlt, _, hcell, place_spec hq hm ⟨_, rfl, iteB_in (fun he => ?_) (fun hne => ?_)⟩⟩
    · have hx : memB ys xs[i] = false := by
        simp only [decide_eq_true_eq] at he
        simp only [memB, decide_eq_false_iff_not]; omega
      rw [List.all_eq_false.2 ⟨xs[i], List.getElem_mem hlt, by rw [hx]; decide⟩] at hK
      exact hK
    · refine ⟨_, wrI (by omega) (by omega), i + 1, ⟨rfl, rfl, rfl, trivial⟩, ⟨rfl, hlt, fun j hj hx => ?_⟩, by omega⟩
      rcases Nat.lt_succ_iff_lt_or_eq.1 hj with h1 | rfl
      · exact hb j h1 hx
      · simp only [decide_eq_false_iff_not] at hne
        simp only [memB, decide_eq_true_eq]; omega
  · have hge : ¬ i < xs.length := by simpa using hge
    rw [List.all_eq_true.2 (fun x hx => by
      obtain ⟨j, hj, rfl⟩ := List.getElem_of_mem hx
      exact hb j (by omega) hj)] at hK
    exact hK

theorem texts_spec {l q : Value} {xs ys : List ByteArray} (hl : Sl eStr S h l xs) (hq : Sl eStr S h q ys) (hn : xs.length ≤ 4611686018427387904) (hm : ys.length ≤ 4611686018427387904)
    (hK : K (.bool (listEq xs ys)) h) : CallK Tryz.prog 8 [l, q] h K X := by
  obtain ⟨a, c, rfl, hc⟩ := hl.form
  obtain ⟨d, e, rfl, hd⟩ := hq.form
  refine callK_of_vc fc8 mixed Tryz.func8 ok8 (Nat.le_of_ble_eq_true rfl) ?_
  refine kmp (B := iteB ((↑(List.length xs) : Int) != (↑(List.length ys) : Int)) (K (Value.bool false) h) (VSem Tryz.prog fc8 (cd Tryz.f8 14) [(0, Value.slice a (List.length xs) c), (1, Value.slice d (List.length ys) e), (4, Value.bool false), (5, Value.int IntKind.i64 0), (10, Value.bool ((↑(List.length xs) : Int) != (↑(List.length ys) : Int)))] h (vcBlock 0 (vcThen (fun (r : Regs) (h : Heap) => vcCode Tryz.prog fc8 (cd Tryz.f8 31) r h (vcPost Tryz.prog (Array.toList (Func.results Tryz.f8)) K X)) (vcPost Tryz.prog (Array.toList (Func.results Tryz.f8)) K X))))) (by kernel_rfl) ?_ -- ENTERED
  refine iteB_in (fun hne => ?_) (fun heq => ?_)
  · have : listEq xs ys = false := by
      rw [← Bool.not_eq_true, listEq_iff]
      rintro rfl
      simp at hne
    rw [this] at hK
    exact hK
  have hlen : xs.length = ys.length := by
    have : (xs.length : Int) = ys.length := by simpa using heq
    omega
  refine loop_sem mixed (α := Nat) (fun i => [(0, .slice a xs.length c), (1, .slice d ys.length e), (5, .int .i64 i)]) (fun i h' => h' = h ∧ i ≤ xs.length ∧ ∀ j, j < i → xs[j]? = ys[j]?)
    (fun i _ => xs.length - i) 0 (by kernel_rfl) ⟨rfl, rfl, rfl, trivial⟩ ⟨rfl, Nat.zero_le _, fun j hj => by omega⟩ ?_
  rintro i h ⟨rfl, hi, hb⟩
  refine Wrap.mk ?_; refine kmp (B := iteB (decide ((↑i : Int) < (↑(List.length xs) : Int))) (∃ (b : Nat), ∃ (o : Nat), ∃ (j : Nat), a = some (Addr.mk b o none) ∧ (↑i : Int) = (↑j : Int) ∧ j < List.length xs ∧ ∃ (x : ByteArray), cellAt h b (o + j) = some (Value.string x) ∧ ∃ (b : Nat), ∃ (o : Nat), ∃ (j : Nat), d = some (Addr.mk b o none) ∧ (↑i : Int) = (↑j : Int) ∧ j < List.length ys ∧ ∃ (x_1 : ByteArray), cellAt h b (o + j) = some (Value.string x_1) ∧ iteB (!strEq x x_1) (K (Value.bool false) h) (∃ (n : Int), Wr IntKind.i64 ((↑i : Int) + 1) n ∧ ∃ (x' : Nat), (Value.slice a (List.length xs) c = Value.slice a (List.length xs) c ∧ Value.slice d (List.length ys) e = Value.slice d (List.length ys) e ∧ Value.int IntKind.i64 n = Value.int IntKind.i64 (↑x' : Int) ∧ True) ∧ (h = h ∧ x' ≤ List.length xs ∧ ∀ (j : Nat), j < x' → xs[j]? = ys[j]?) ∧ List.length xs - x' < List.length xs - i)) (K (Value.bool true) h)) (by kernel_rfl) ?_
  refine iteB_in (fun hlt => ?_) (fun hge => ?_)
  · have hlt : i < xs.length := by simpa using hlt
    obtain ⟨b, o, rfl, _, hcell⟩ := hl.atS hlt
    obtain ⟨b2, o2, rfl, _, hcell2⟩ := hq.atS (i := i) (by omega)
    refine ⟨b, o, i, rfl, rfl, hlt, _, hcell, b2, o2, i, rfl, rfl, by omega, _, hcell2, iteB_in (fun hne => ?_) (fun he => ?_)⟩
    · have : listEq xs ys = false := by
        rw [← Bool.not_eq_true, listEq_iff]
        rintro rfl
        rw [strEq_iff.2 rfl] at hne; cases hne
      rw [this] at hK
      exact hK
    · have he := strEq_iff.1 ((Bool.not_eq_false' ..).mp he)
      refine ⟨_, wrI (by omega) (by omega), i + 1, ⟨rfl, rfl, rfl, trivial⟩, ⟨rfl, hlt, fun j hj => ?_⟩, by omega⟩
      rcases Nat.lt_succ_iff_lt_or_eq.1 hj with h1 | rfl
      · exact hb j h1
      · rw [List.getElem?_eq_getElem hlt, List.getElem?_eq_getElem (by omega), he]
  · have hge : ¬ i < xs.length := by simpa using hge
    have : xs = ys := List.ext_getElem? (fun j => by
      by_cases hj : j < i
      · exact hb j hj
      · rw [List.getElem?_eq_none (by omega), List.getElem?_eq_none (by omega)])
    rw [listEq_iff.2 this] at hK
    exact hK

end Go.Proofs.YtdnlhicbjhgjiaaGreatDoor
