/- How many names lead to a node; what a change of the tree does to that. The invariant of a tree: kept by each change. The invariant of a tree: what paths find in it; moves; new nodes. -/
import Derived.Test.YtpfaccpmgldkeaaGreatDoorRemove
import Derived.Test.YtpfaccpmgldkeaaGreatDoorLink
import Derived.Test.YtpfaccpmgldkeaaGreatDoorMark
set_option linter.unusedVariables false
set_option linter.unusedSimpArgs false
namespace Go.Proofs.YtpfaccpmgldkeaaGreatDoor
open Go.RowKit Go.MapKept Go.ChangeMaps

theorem nodup_of_srt {κ ν : Type} {lt : κ → κ → Bool} (O : LtOk lt) {l : List (κ × ν)} (h : Srt lt l) : (l.map (·.1)).Nodup := by
  unfold Srt at h
  unfold List.Nodup
  rw [List.pairwise_map]
  exact h.imp fun {a b} hab e => by rw [e, O.irr] at hab; cases hab
section
variable {κ ν : Type} [DecidableEq κ]
theorem del_none {k : κ} {l : List (κ × ν)} (h : M.get l k = none) : M.del l k = l := by
  unfold M.del
  rw [List.filter_eq_self]
  intro p hp
  simp only [Bool.not_eq_true', decide_eq_false_iff_not]
  intro e
  unfold M.get at h
  rw [Option.map_eq_none_iff, List.find?_eq_none] at h
  exact h p hp (by simpa using e)
theorem del_put (lt : κ → κ → Bool) (k : κ) (v : ν) : ∀ l : List (κ × ν), M.del (M.put lt k v l) k = M.del l k
  | [] => by simp [M.put, M.del]
  | p :: l => by
    unfold M.put
    split
    · rename_i h; simp [M.del, h]
    · rename_i h
      split
      · simp [M.del]
      · have ih := del_put lt k v l
        unfold M.del at ih ⊢
        simp [h, ih]
theorem perm_get {k : κ} {v : ν} : ∀ {l : List (κ × ν)}, (l.map (·.1)).Nodup → M.get l k = some v → l.Perm ((k, v) :: M.del l k)
  | [], _, h => by simp [M.get] at h
  | p :: l, hn, h => by
    rw [List.map_cons, List.nodup_cons] at hn
    by_cases e : p.1 = k
    · have hv : p.2 = v := by simpa [M.get, e] using h
      have hd : M.del (p :: l) k = M.del l k := by simp [M.del, e]
      have hl : M.del l k = l := del_none (get_none fun v hm => hn.1 (e ▸ List.mem_map.2 ⟨_, hm, rfl⟩))
      rw [hd, hl, ← hv, ← e]
    · have hg : M.get l k = some v := by simpa [M.get, e] using h
      have hd : M.del (p :: l) k = p :: M.del l k := by simp [M.del, e]
      rw [hd]
      exact ((perm_get hn.2 hg).cons p).trans (List.Perm.swap _ _ _)
theorem put_perm {lt : κ → κ → Bool} (O : LtOk lt) (k : κ) (v : ν) {l : List (κ × ν)} (hs : Srt lt l) : (M.put lt k v l).Perm ((k, v) :: M.del l k) := by
  have h := perm_get (nodup_of_srt O (put_srt O k v l hs)) (k := k) (v := v) (by rw [get_put, if_pos rfl])
  rwa [del_put] at h
theorem sum_perm {l l' : List Nat} (h : l.Perm l') : l.sum = l'.sum := by
  induction h with
  | nil => rfl
  | cons x _ ih => simp [ih]
  | swap x y l => simp; omega
  | trans _ _ ih1 ih2 => exact ih1.trans ih2
theorem sum_del {lt : κ → κ → Bool} (O : LtOk lt) (f : κ × ν → Nat) (k : κ) {l : List (κ × ν)} (hs : Srt lt l) : ((M.del l k).map f).sum + ((M.get l k).map fun x => f (k, x)).getD 0 = (l.map f).sum := by
  cases h : M.get l k with
  | none => rw [del_none h]; simp
  | some x =>
    have := sum_perm ((perm_get (nodup_of_srt O hs) h).map f)
    rw [this]
    simp
    omega
theorem sum_put {lt : κ → κ → Bool} (O : LtOk lt) (f : κ × ν → Nat) (k : κ) (v : ν) {l : List (κ × ν)} (hs : Srt lt l) : ((M.put lt k v l).map f).sum + ((M.get l k).map fun x => f (k, x)).getD 0 = (l.map f).sum + f (k, v) := by
  have h1 := sum_perm ((put_perm O k v hs).map f)
  have h2 := sum_del O f k hs
  rw [List.map_cons, List.sum_cons] at h1
  omega
end

/-- How many names lead to a node: in one directory, and in all. -/
def tgt (l : List (M.Bs × Int)) (n : Int) : Nat := (l.map fun p => if p.2 = n then 1 else 0).sum
def cnt (s : M.St) (n : Int) : Nat := (s.nodes.map fun p => tgt p.2.names n).sum

theorem tgt_put {l : List (M.Bs × Int)} (hs : Srt M.ltB l) (m : M.Bs) (c n : Int) (hg : M.get l m = none) : tgt (M.put M.ltB m c l) n = tgt l n + (if c = n then 1 else 0) := by
  have := sum_put ltB_ok (fun p : M.Bs × Int => if p.2 = n then 1 else 0) m c hs
  rw [hg] at this
  simpa [tgt] using this
theorem tgt_del {l : List (M.Bs × Int)} (hs : Srt M.ltB l) {m : M.Bs} {c : Int} (n : Int) (hg : M.get l m = some c) : tgt (M.del l m) n + (if c = n then 1 else 0) = tgt l n := by
  have := sum_del ltB_ok (fun p : M.Bs × Int => if p.2 = n then 1 else 0) m hs
  rw [hg] at this
  simpa [tgt] using this
theorem tgt_pos {l : List (M.Bs × Int)} (hs : Srt M.ltB l) {m : M.Bs} {n : Int} (hg : M.get l m = some n) : 1 ≤ tgt l n := by
  have := tgt_del hs n hg
  rw [if_pos rfl] at this
  omega
theorem tgt_some {l : List (M.Bs × Int)} (hs : Srt M.ltB l) {n : Int} (h : 1 ≤ tgt l n) : ∃ m, M.get l m = some n := by
  by_cases hex : ∃ p ∈ l, p.2 = n
  · obtain ⟨p, hp, rfl⟩ := hex
    exact ⟨p.1, get_mem (nodup_of_srt ltB_ok hs) hp⟩
  · have : tgt l n = 0 := by
      clear h hs
      induction l with
      | nil => rfl
      | cons p l ih =>
        have h1 := ih (fun ⟨q, hq, e⟩ => hex ⟨q, List.mem_cons_of_mem _ hq, e⟩)
        unfold tgt at h1 ⊢
        rw [List.map_cons, List.sum_cons, if_neg (fun e => hex ⟨p, List.mem_cons_self, e⟩), h1]
    omega
theorem tgt_two {l : List (M.Bs × Int)} (hs : Srt M.ltB l) {m m' : M.Bs} {n : Int} (hg : M.get l m = some n) (hg' : M.get l m' = some n) (hne : m ≠ m') : 2 ≤ tgt l n := by
  have h1 := tgt_del hs n hg
  have h2 := tgt_pos (del_srt m hs) (m := m') (n := n) (by rw [get_del_eq, if_neg hne.symm]; exact hg')
  rw [if_pos rfl] at h1
  omega
theorem tgt_nil (n : Int) : tgt [] n = 0 := rfl

theorem nd_none {s : M.St} {n : Int} (h : s.has n = false) : s.nd n = {} := by
  unfold M.St.has at h
  unfold M.St.nd
  cases hg : M.get s.nodes n with
  | none => rfl
  | some x => rw [hg] at h; cases h
theorem get_has {s : M.St} {n : Int} {x : M.Nd} (h : M.get s.nodes n = some x) : s.has n = true ∧ s.nd n = x := by
  unfold M.St.has M.St.nd
  rw [h]; exact ⟨rfl, rfl⟩
theorem cnt_set {s : M.St} (hs : Srt M.ltI s.nodes) (d : Int) (y : M.Nd) (n : Int) : cnt (s.set d y) n + tgt (s.nd d).names n = cnt s n + tgt y.names n := by
  have := sum_put ltI_ok (fun p : Int × M.Nd => tgt p.2.names n) d y hs
  unfold cnt M.St.nd
  show (((M.put M.ltI d y s.nodes).map fun p => tgt p.2.names n).sum) + _ = _
  cases hg : M.get s.nodes d with
  | none => rw [hg] at this; exact this
  | some x => rw [hg] at this; exact this
theorem cnt_del {s s' : M.St} (hs : Srt M.ltI s.nodes) (d : Int) (n : Int) (h : s'.nodes = M.del s.nodes d) : cnt s' n + tgt (s.nd d).names n = cnt s n := by
  have := sum_del ltI_ok (fun p : Int × M.Nd => tgt p.2.names n) d hs
  unfold cnt M.St.nd
  rw [h]
  cases hg : M.get s.nodes d with
  | none => rw [hg] at this; exact this
  | some x => rw [hg] at this; exact this
theorem cnt_pos {s : M.St} (hs : Srt M.ltI s.nodes) {d : Int} {m : M.Bs} {n : Int} (hd : Srt M.ltB (s.nd d).names) (hg : M.get (s.nd d).names m = some n) : 1 ≤ cnt s n := by
  have h1 := cnt_set hs d {} n
  have h2 := tgt_pos hd hg
  simp only [tgt_nil] at h1
  omega
theorem cnt_two {s : M.St} (hs : Srt M.ltI s.nodes) {d : Int} {m m' : M.Bs} {n : Int} (hd : Srt M.ltB (s.nd d).names) (hg : M.get (s.nd d).names m = some n) (hg' : M.get (s.nd d).names m' = some n) (hne : m ≠ m') : 2 ≤ cnt s n := by
  have h1 := cnt_set hs d {} n
  have h2 := tgt_two hd hg hg' hne
  simp only [tgt_nil] at h1
  omega
theorem cnt_congr {s s' : M.St} (h : s'.nodes.map (fun p => p.2.names) = s.nodes.map fun p => p.2.names) (n : Int) : cnt s' n = cnt s n := by
  unfold cnt
  have e : ∀ l : List (Int × M.Nd), l.map (fun p => tgt p.2.names n) = (l.map fun p => p.2.names).map fun x => tgt x n := fun l => by rw [List.map_map]; rfl
  rw [e, e, h]

/-- A directory is one, or lies below it. -/
inductive Sub (s : M.St) (n : Int) : Int → Prop
  | refl : Sub s n n
  | step {m : Int} : m ≠ n → s.has m = true → (s.nd m).above ≠ 0 → Sub s n (s.nd m).above → Sub s n m

/-- A tree behind at most k operations; d: how far a directory is from the root; x: a node that is on its way (0: none). -/
structure Wz (x : Int) (k : Int) (d : Int → Nat) (s : M.St) : Prop where
  srt : Srt M.ltI s.nodes
  root : s.has 1 = true
  rootK : (s.nd 1).kind = 2
  rootA : (s.nd 1).above = 0
  rootL : (s.nd 1).links = 1
  last : 1 ≤ s.last ∧ s.last ≤ k + 1
  num : ∀ n, s.has n = true → 1 ≤ n ∧ n ≤ s.last
  kind : ∀ n, s.has n = true → (s.nd n).kind = 1 ∨ (s.nd n).kind = 2 ∨ (s.nd n).kind = 3
  leaf : ∀ n, s.has n = true → (s.nd n).kind ≠ 2 → (s.nd n).names = [] ∧ (s.nd n).above = 0
  nsrt : ∀ n, s.has n = true → Srt M.ltB (s.nd n).names
  child : ∀ n, s.has n = true → ∀ m c, M.get (s.nd n).names m = some c → s.has c = true ∧ c ≠ 1 ∧ m.length ≤ 24 ∧ M.slash ∉ m ∧ m ≠ [] ∧ ((s.nd c).kind = 2 → (s.nd c).above = n)
  up : ∀ n, n ≠ x → s.has n = true → (s.nd n).above ≠ 0 → s.has (s.nd n).above = true ∧ (s.nd (s.nd n).above).kind = 2 ∧ ∃ m, M.get (s.nd (s.nd n).above).names m = some n
  tall : ∀ n, n ≠ x → s.has n = true → (s.nd n).above ≠ 0 → d n = d (s.nd n).above + 1 ∧ d n ≤ 20
  droot : d 1 = 0
  det : ∀ n, n ≠ x → s.has n = true → (s.nd n).kind = 2 → n ≠ 1 → (s.nd n).above = 0 → (s.nd n).names = []
  cnt : ∀ n, n ≠ x → s.has n = true → n ≠ 1 → (s.nd n).links = cnt s n
  dlk : ∀ n, n ≠ x → s.has n = true → (s.nd n).kind = 2 → n ≠ 1 → (s.nd n).links ≤ 1
  most : ∀ n, s.has n = true → ((s.nd n).names.length : Int) ≤ (s.nd n).most ∧ (s.nd n).most ≤ k
  links : ∀ n, s.has n = true → 0 ≤ (s.nd n).links ∧ (s.nd n).links ≤ k + 1
  high : ∀ n, s.has n = true → 0 ≤ (s.nd n).high ∧ (s.nd n).high ≤ 5000
  data : ∀ n, s.has n = true → (s.nd n).data.length ≤ 20736 ∧ (s.nd n).written.length ≤ 162
  target : ∀ n, s.has n = true → (s.nd n).kind = 3 → (s.nd n).data.length ≤ 100
  dir : ∀ n, s.has n = true → (s.nd n).kind = 2 → (s.nd n).data = [] ∧ (s.nd n).written = []
  fds : ∀ i, (s.fds i).opn = true → s.has (s.fds i).node = true ∧ (0 ≤ (s.fds i).off ∧ (s.fds i).off ≤ 1099511627776) ∧ (0 ≤ (s.fds i).flags ∧ (s.fds i).flags < 64)
  fd16 : ∀ i, (s.fds i).opn = true → i < 16
  fdk : ∀ i, (s.fds i).opn = true → (s.nd (s.fds i).node).kind ≠ 3
  past : 0 ≤ s.past ∧ s.past ≤ 5000 * k
  went : 0 ≤ s.went ∧ s.went ≤ k

section
variable {x k : Int} {d : Int → Nat} {s : M.St}
theorem Wz.cpos (h : Wz x k d s) {n : Int} (hn : s.has n = true) {m : M.Bs} {c : Int} (hg : M.get (s.nd n).names m = some c) : 1 ≤ Go.Proofs.YtpfaccpmgldkeaaGreatDoor.cnt s c := cnt_pos h.srt (h.nsrt n hn) hg
theorem Wz.lk (h : Wz 0 k d s) {n : Int} (hn : s.has n = true) {m : M.Bs} {c : Int} (hg : M.get (s.nd n).names m = some c) : 1 ≤ (s.nd c).links := by
  have h1 := h.child n hn m c hg
  have h2 := h.num c h1.1
  rw [h.cnt c (by omega) h1.1 h1.2.1]
  have := h.cpos hn hg
  omega
theorem Wz.ne0 (h : Wz x k d s) {n : Int} (hn : s.has n = true) : n ≠ 0 := by have := h.num n hn; omega
theorem Wz.wf (h : Wz 0 k d s) : Wf k s where
  srt := h.srt
  root := h.root
  rootK := h.rootK
  rootA := h.rootA
  last := h.last
  num := h.num
  kind := h.kind
  leaf := h.leaf
  nsrt := h.nsrt
  child := h.child
  one := fun n hn m m' c h1 h2 hk => by
    by_cases e : m = m'
    · exact e
    · have a1 := cnt_two h.srt (h.nsrt n hn) h1 h2 e
      have a2 := h.child n hn m c h1
      have a3 := h.cnt c (h.ne0 a2.1) a2.1 a2.2.1
      have a4 := h.dlk c (h.ne0 a2.1) a2.1 hk a2.2.1
      omega
  up := fun n hn => h.up n (h.ne0 hn) hn
  tall := ⟨d, fun n hn => h.tall n (h.ne0 hn) hn⟩
  most := h.most
  links := h.links
  high := h.high
  data := h.data
  target := h.target
  dir := h.dir
  fds := h.fds
  fdk := h.fdk
  past := h.past
  went := h.went
theorem Wz.mono (h : Wz x k d s) {k' : Int} (hk : k ≤ k') : Wz x k' d s where
  srt := h.srt
  root := h.root
  rootK := h.rootK
  rootA := h.rootA
  rootL := h.rootL
  last := ⟨h.last.1, by have := h.last.2; omega⟩
  num := h.num
  kind := h.kind
  leaf := h.leaf
  nsrt := h.nsrt
  child := h.child
  up := h.up
  tall := h.tall
  droot := h.droot
  det := h.det
  cnt := h.cnt
  dlk := h.dlk
  most := fun n hn => ⟨(h.most n hn).1, by have := (h.most n hn).2; omega⟩
  links := fun n hn => ⟨(h.links n hn).1, by have := (h.links n hn).2; omega⟩
  high := h.high
  data := h.data
  target := h.target
  dir := h.dir
  fds := h.fds
  fd16 := h.fd16
  fdk := h.fdk
  past := ⟨h.past.1, by have := h.past.2; omega⟩
  went := ⟨h.went.1, by have := h.went.2; omega⟩

/-- A change that leaves alone whose names lead where. -/
theorem Wz.soft (h : Wz x k d s) {s' : M.St} (hns : s'.nodes.map (fun p => p.2.names) = s.nodes.map fun p => p.2.names) (hs : Srt M.ltI s'.nodes) (hh : ∀ n, s'.has n = s.has n) (hl : s'.last = s.last) (hp : s'.past = s.past ∨ s'.past = 0) (hw : s'.went = s.went ∨ s'.went = 0)
    (hk : ∀ n, (s'.nd n).kind = (s.nd n).kind ∧ (s'.nd n).names = (s.nd n).names ∧ (s'.nd n).above = (s.nd n).above ∧ (s'.nd n).links = (s.nd n).links ∧ (s'.nd n).most = (s.nd n).most)
    (hhi : ∀ n, s.has n = true → 0 ≤ (s'.nd n).high ∧ (s'.nd n).high ≤ 5000)
    (hd : ∀ n, s.has n = true → (s'.nd n).data.length ≤ 20736 ∧ (s'.nd n).written.length ≤ 162)
    (htg : ∀ n, s.has n = true → (s.nd n).kind ≠ 1 → (s'.nd n).data = (s.nd n).data ∧ (s'.nd n).written = (s.nd n).written)
    (hf : ∀ i, (s'.fds i).opn = true → s.has (s'.fds i).node = true ∧ (0 ≤ (s'.fds i).off ∧ (s'.fds i).off ≤ 1099511627776) ∧ (0 ≤ (s'.fds i).flags ∧ (s'.fds i).flags < 64))
    (hf16 : ∀ i, (s'.fds i).opn = true → i < 16) (hfk : ∀ i, (s'.fds i).opn = true → (s.nd (s'.fds i).node).kind ≠ 3) : Wz x k d s' where
  srt := hs
  root := by rw [hh]; exact h.root
  rootK := by rw [(hk 1).1]; exact h.rootK
  rootA := by rw [(hk 1).2.2.1]; exact h.rootA
  rootL := by rw [(hk 1).2.2.2.1]; exact h.rootL
  last := by rw [hl]; exact h.last
  num := fun n hn => by rw [hl]; rw [hh] at hn; exact h.num n hn
  kind := fun n hn => by rw [hh] at hn; rw [(hk n).1]; exact h.kind n hn
  leaf := fun n hn hk2 => by rw [hh] at hn; rw [(hk n).1] at hk2; rw [(hk n).2.1, (hk n).2.2.1]; exact h.leaf n hn hk2
  nsrt := fun n hn => by rw [hh] at hn; rw [(hk n).2.1]; exact h.nsrt n hn
  child := fun n hn m c hg => by
    rw [hh] at hn
    rw [(hk n).2.1] at hg
    rw [hh, (hk c).1, (hk c).2.2.1]
    exact h.child n hn m c hg
  up := fun n hx hn ha => by
    rw [hh] at hn
    rw [(hk n).2.2.1] at ha ⊢
    rw [hh, (hk _).1, (hk _).2.1]
    exact h.up n hx hn ha
  tall := fun n hx hn ha => by
    rw [hh] at hn
    rw [(hk n).2.2.1] at ha ⊢
    exact h.tall n hx hn ha
  droot := h.droot
  det := fun n hx hn => by
    rw [hh] at hn
    rw [(hk n).1, (hk n).2.1, (hk n).2.2.1]
    exact h.det n hx hn
  cnt := fun n hx hn h1 => by
    rw [hh] at hn
    rw [(hk n).2.2.2.1, cnt_congr hns]
    exact h.cnt n hx hn h1
  dlk := fun n hx hn => by
    rw [hh] at hn
    rw [(hk n).1, (hk n).2.2.2.1]
    exact h.dlk n hx hn
  most := fun n hn => by
    rw [hh] at hn
    rw [(hk n).2.1, (hk n).2.2.2.2]
    exact h.most n hn
  links := fun n hn => by
    rw [hh] at hn
    rw [(hk n).2.2.2.1]
    exact h.links n hn
  high := fun n hn => by rw [hh] at hn; exact hhi n hn
  data := fun n hn => by rw [hh] at hn; exact hd n hn
  target := fun n hn hk3 => by
    rw [hh] at hn
    rw [(hk n).1] at hk3
    rw [(htg n hn (by omega)).1]
    exact h.target n hn hk3
  dir := fun n hn hk2 => by
    rw [hh] at hn
    rw [(hk n).1] at hk2
    rw [(htg n hn (by omega)).1, (htg n hn (by omega)).2]
    exact h.dir n hn hk2
  fds := fun i hi => by rw [hh]; exact hf i hi
  fd16 := hf16
  fdk := fun i hi => by rw [(hk _).1]; exact hfk i hi
  past := by rcases hp with e | e <;> (have := h.past; have := h.went; have := h.last; rw [e]; omega)
  went := by rcases hw with e | e <;> (have := h.past; have := h.went; have := h.last; rw [e]; omega)
end
end Go.Proofs.YtpfaccpmgldkeaaGreatDoor

namespace Go.Proofs.YtpfaccpmgldkeaaGreatDoor
open Go.RowKit Go.MapKept Go.ChangeMaps

/- ADD -/
section
variable {s : M.St} {dir n : Int} {name : M.Bs}
theorem add_has (hd : s.has dir = true) (hn : s.has n = true) (m : Int) : (s.add dir name n).has m = s.has m := by
  have hd' : ∀ m, m = dir → s.has m = true := fun m e => e ▸ hd
  have hn' : ∀ m, m = n → s.has m = true := fun m e => e ▸ hn
  unfold M.St.add
  simp only
  split <;> (rw [set_has, set_has]; by_cases e1 : m = n <;> by_cases e2 : m = dir <;> simp_all)
theorem add_nd (hne : n ≠ dir) (m : Int) : (s.add dir name n).nd m =
    if m = n then (if (s.nd n).kind = 2 then { s.nd n with above := dir, links := 1 } else { s.nd n with links := (s.nd n).links + 1 })
    else if m = dir then { s.nd dir with names := M.put M.ltB name n (s.nd dir).names, most := max (s.nd dir).most (M.put M.ltB name n (s.nd dir).names).length } else s.nd m := by
  unfold M.St.add
  simp only [set_nd, if_neg hne]
  by_cases hk : (s.nd n).kind = 2
  · rw [if_pos hk, if_pos hk, set_nd, set_nd]
  · rw [if_neg hk, if_neg hk, set_nd, set_nd]
theorem add_kind (hne : n ≠ dir) (m : Int) : ((s.add dir name n).nd m).kind = (s.nd m).kind := by
  rw [add_nd hne]; split
  · rename_i e; split <;> rw [e]
  · split
    · rename_i e; rw [e]
    · rfl
theorem add_names (hne : n ≠ dir) (m : Int) : ((s.add dir name n).nd m).names = if m = dir then M.put M.ltB name n (s.nd dir).names else (s.nd m).names := by
  rw [add_nd hne]
  by_cases e : m = n
  · have e2 : ¬ m = dir := by rw [e]; exact hne
    rw [if_pos e, if_neg e2]; split <;> rw [e]
  · rw [if_neg e]; split <;> rfl
theorem add_above (hne : n ≠ dir) (m : Int) : ((s.add dir name n).nd m).above = if m = n ∧ (s.nd n).kind = 2 then dir else (s.nd m).above := by
  rw [add_nd hne]
  by_cases e : m = n
  · by_cases hk : (s.nd n).kind = 2
    · rw [if_pos e, if_pos hk, if_pos ⟨e, hk⟩]
    · rw [if_pos e, if_neg hk, if_neg (fun h => hk h.2), e]
  · have e3 : ¬ (m = n ∧ (s.nd n).kind = 2) := fun h => e h.1
    rw [if_neg e, if_neg e3]
    split
    · rename_i e2; rw [e2]
    · rfl
theorem add_links (hne : n ≠ dir) (m : Int) : ((s.add dir name n).nd m).links = if m = n then (if (s.nd n).kind = 2 then 1 else (s.nd n).links + 1) else (s.nd m).links := by
  rw [add_nd hne]; split
  · split <;> rfl
  · split
    · rename_i e; rw [e]
    · rfl
theorem add_most (hne : n ≠ dir) (m : Int) : ((s.add dir name n).nd m).most = if m = dir then max (s.nd dir).most (M.put M.ltB name n (s.nd dir).names).length else (s.nd m).most := by
  rw [add_nd hne]
  by_cases e : m = n
  · have e2 : ¬ m = dir := by rw [e]; exact hne
    rw [if_pos e, if_neg e2]; split <;> rw [e]
  · rw [if_neg e]; split <;> rfl
theorem add_rest (hne : n ≠ dir) (m : Int) : ((s.add dir name n).nd m).high = (s.nd m).high ∧ ((s.add dir name n).nd m).data = (s.nd m).data ∧ ((s.add dir name n).nd m).written = (s.nd m).written := by
  rw [add_nd hne]; split
  · rename_i e; split <;> (rw [e]; exact ⟨rfl, rfl, rfl⟩)
  · split
    · rename_i e; rw [e]; exact ⟨rfl, rfl, rfl⟩
    · exact ⟨rfl, rfl, rfl⟩
theorem add_past (s : M.St) (dir : Int) (name : M.Bs) (n : Int) : (s.add dir name n).past = s.past ∧ (s.add dir name n).went = s.went := by
  unfold M.St.add
  simp only
  split <;> exact ⟨rfl, rfl⟩
theorem add_fds' (s : M.St) (d : Int) (m : M.Bs) (n : Int) : (s.add d m n).fds = s.fds := by
  unfold M.St.add
  simp only
  split <;> rfl
theorem add_srt (hs : Srt M.ltI s.nodes) : Srt M.ltI (s.add dir name n).nodes := by
  unfold M.St.add
  simp only
  split <;> exact put_srt ltI_ok _ _ _ (put_srt ltI_ok _ _ _ hs)
theorem add_cnt (hs : Srt M.ltI s.nodes) (hne : n ≠ dir) (hsd : Srt M.ltB (s.nd dir).names) (hg : M.get (s.nd dir).names name = none) (c : Int) : cnt (s.add dir name n) c = cnt s c + (if n = c then 1 else 0) := by
  have h1 := fun y => cnt_set hs dir y c
  have h2 := tgt_put hsd name n c hg
  have h3 := h1 { s.nd dir with names := M.put M.ltB name n (s.nd dir).names, most := max (s.nd dir).most (M.put M.ltB name n (s.nd dir).names).length }
  have h4 := fun y => cnt_set (s := s.set dir { s.nd dir with names := M.put M.ltB name n (s.nd dir).names, most := max (s.nd dir).most (M.put M.ltB name n (s.nd dir).names).length }) (put_srt ltI_ok _ _ _ hs) n y c
  simp only [set_nd, if_neg hne] at h4
  unfold M.St.add
  simp only [set_nd, if_neg hne]
  split
  · have h5 := h4 { s.nd n with above := dir, links := 1 }
    simp only at h3 h5 ⊢
    omega
  · have h5 := h4 { s.nd n with links := (s.nd n).links + 1 }
    simp only at h3 h5 ⊢
    omega
end

section
variable {k : Int} {d : Int → Nat} {s : M.St}

theorem Sub.up1 {n m : Int} (h : Sub s n m) (hne : m ≠ n) : Sub s n (s.nd m).above := by
  cases h with
  | refl => exact absurd rfl hne
  | step _ _ _ h => exact h
theorem Sub.le {n m : Int} (h : Wz n k d s) (hs : Sub s n m) : d n ≤ d m := by
  induction hs with
  | refl => exact Nat.le_refl _
  | step h1 h2 h3 _ ih => have := (h.tall _ h1 h2 h3).1; omega

open Classical in
theorem Wz.add {n dir : Int} {name : M.Bs} (h : Wz n k d s) (hn : s.has n = true) (hn1 : n ≠ 1) (hd : s.has dir = true) (hdk : (s.nd dir).kind = 2) (hne : n ≠ dir)
    (hda : dir = 1 ∨ (s.nd dir).above ≠ 0)
    (hg : M.get (s.nd dir).names name = none) (hnm : name.length ≤ 24 ∧ M.slash ∉ name ∧ name ≠ []) (hlk : (s.nd n).kind ≠ 2 → (s.nd n).links = Go.Proofs.YtpfaccpmgldkeaaGreatDoor.cnt s n) (hl0 : (s.nd n).kind = 2 → Go.Proofs.YtpfaccpmgldkeaaGreatDoor.cnt s n = 0)
    (hsub : (s.nd n).kind = 2 → ¬ Sub s n dir) (hdeep : (s.nd n).kind = 2 → ∀ m, s.has m = true → Sub s n m → d m + d dir + 1 ≤ 20 + d n) : ∃ d', Wz 0 (k + 1) d' (s.add dir name n) := by
  have hlen := fun m => put_len M.ltB name n (s.nd m).names
  have hnone : ∀ n', s.has n' = true → ∀ m, (s.nd n).kind = 2 → M.get (s.nd n').names m ≠ some n := fun n' hn' m hk hgm => by
    have := h.cpos hn' hgm
    rw [hl0 hk] at this; omega
  have hnchild : (s.nd n).kind ≠ 2 → ∀ m, s.has m = true → (s.nd m).above ≠ 0 → m ≠ n := fun hk m hm ha e => ha (by rw [e]; exact (h.leaf n hn hk).2)
  refine ⟨if (s.nd n).kind = 2 then fun m => if Sub s n m then d m - d n + (d dir + 1) else d m else d, ?_⟩
  have hd0 : ∀ m, m ≠ n → (s.nd m).above = 0 → ¬ Sub s n m := fun m hm ha hs => by
    cases hs with
    | refl => exact hm rfl
    | step _ _ h3 _ => exact h3 ha
  refine ⟨add_srt h.srt, by rw [add_has hd hn]; exact h.root, by rw [add_kind hne]; exact h.rootK, ?_, ?_, ?_, ?_, ?_, ?_, ?_, ?_, ?_, ?_, ?_, ?_, ?_, ?_, ?_, ?_, ?_, ?_, ?_, ?_, ?_, ?_, ?_, ?_, ?_⟩
  · rw [add_above hne, if_neg (fun e => hn1 e.1.symm)]; exact h.rootA
  · rw [add_links hne, if_neg (fun e => hn1 e.symm)]; exact h.rootL
  · rw [add_last]; have := h.last; omega
  · intro m hm; rw [add_has hd hn] at hm; rw [add_last]; exact h.num m hm
  · intro m hm; rw [add_has hd hn] at hm; rw [add_kind hne]; exact h.kind m hm
  · intro m hm hk
    rw [add_has hd hn] at hm
    rw [add_kind hne] at hk
    have e1 : ¬ m = dir := fun e => hk (by rw [e]; exact hdk)
    have e2 : ¬ (m = n ∧ (s.nd n).kind = 2) := fun e => hk (by rw [e.1]; exact e.2)
    rw [add_names hne, add_above hne, if_neg e1, if_neg e2]
    exact h.leaf m hm hk
  · intro m hm
    rw [add_has hd hn] at hm
    rw [add_names hne]
    split
    · exact put_srt ltB_ok _ _ _ (h.nsrt dir hd)
    · exact h.nsrt m hm
  · intro n' hn' m c hgc
    rw [add_has hd hn] at hn'
    rw [add_names hne] at hgc
    rw [add_has hd hn, add_kind hne, add_above hne]
    by_cases e : n' = dir
    · rw [if_pos e, get_put] at hgc
      by_cases em : m = name
      · rw [if_pos em] at hgc
        cases hgc
        refine ⟨hn, hn1, by rw [em]; exact hnm.1, by rw [em]; exact hnm.2.1, by rw [em]; exact hnm.2.2, fun hk => by rw [if_pos ⟨rfl, hk⟩, e]⟩
      · rw [if_neg em] at hgc
        obtain ⟨a1, a2, a3, a4, a5, a6⟩ := h.child dir hd m c hgc
        refine ⟨a1, a2, a3, a4, a5, fun hk => ?_⟩
        rw [if_neg (by rintro ⟨e1, e2⟩; exact hnone dir hd m e2 (e1 ▸ hgc)), e]
        exact a6 hk
    · rw [if_neg e] at hgc
      obtain ⟨a1, a2, a3, a4, a5, a6⟩ := h.child n' hn' m c hgc
      refine ⟨a1, a2, a3, a4, a5, fun hk => ?_⟩
      rw [if_neg (by rintro ⟨e1, e2⟩; exact hnone n' hn' m e2 (e1 ▸ hgc))]
      exact a6 hk
  · intro m _ hm ha
    rw [add_has hd hn] at hm
    rw [add_above hne] at ha ⊢
    by_cases e : m = n ∧ (s.nd n).kind = 2
    · rw [if_pos e]
      refine ⟨by rw [add_has hd hn]; exact hd, by rw [add_kind hne]; exact hdk, name, ?_⟩
      rw [add_names hne, if_pos rfl, get_put, if_pos rfl, e.1]
    · rw [if_neg e] at ha ⊢
      have hmn : m ≠ n := fun e1 => by
        by_cases hk : (s.nd n).kind = 2
        · exact e ⟨e1, hk⟩
        · exact hnchild hk m hm ha e1
      obtain ⟨a1, a2, mm, a3⟩ := h.up m hmn hm ha
      refine ⟨by rw [add_has hd hn]; exact a1, by rw [add_kind hne]; exact a2, mm, ?_⟩
      rw [add_names hne]
      split
      · rename_i e1
        rw [get_put, if_neg (fun e2 => by rw [e1, e2, hg] at a3; cases a3), ← e1]
        exact a3
      · exact a3
  · intro m _ hm ha
    rw [add_has hd hn] at hm
    rw [add_above hne] at ha ⊢
    by_cases hk : (s.nd n).kind = 2
    · rw [if_pos hk]
      by_cases e : m = n
      · have hc : m = n ∧ (s.nd n).kind = 2 := ⟨e, hk⟩
        rw [if_pos hc, if_neg (hsub hk), e, if_pos Sub.refl]
        have := hdeep hk n hn Sub.refl
        omega
      · have hc : ¬ (m = n ∧ (s.nd n).kind = 2) := fun e1 => e e1.1
        rw [if_neg hc] at ha ⊢
        have ht := h.tall m e hm ha
        by_cases hs : Sub s n m
        · have h2 := hs.up1 e
          rw [if_pos hs, if_pos h2]
          have h3 := h2.le h
          have := hdeep hk m hm hs
          omega
        · rw [if_neg hs, if_neg (fun h2 => hs (Sub.step e hm ha h2))]
          exact ht
    · have hc : ¬ (m = n ∧ (s.nd n).kind = 2) := fun e1 => hk e1.2
      rw [if_neg hk]
      rw [if_neg hc] at ha ⊢
      exact h.tall m (hnchild hk m hm ha) hm ha
  · by_cases hk : (s.nd n).kind = 2
    · rw [if_pos hk]
      rw [if_neg (hd0 1 (fun e => hn1 e.symm) h.rootA)]
      exact h.droot
    · rw [if_neg hk]; exact h.droot
  · intro m _ hm hk h1 ha
    rw [add_has hd hn] at hm
    rw [add_kind hne] at hk
    rw [add_above hne] at ha
    by_cases e : m = n
    · rw [if_pos ⟨e, e ▸ hk⟩] at ha
      exact absurd ha (h.ne0 hd)
    · rw [if_neg (fun e1 => e e1.1)] at ha
      rw [add_names hne, if_neg ?_]
      · exact h.det m e hm hk h1 ha
      · intro e1
        rcases hda with e2 | e2
        · exact h1 (e1.trans e2)
        · exact e2 (e1 ▸ ha)
  · intro m _ hm h1
    rw [add_has hd hn] at hm
    rw [add_links hne, add_cnt h.srt hne (h.nsrt dir hd) hg]
    by_cases e : m = n
    · rw [if_pos e, if_pos e.symm]
      by_cases hk : (s.nd n).kind = 2
      · rw [if_pos hk, e, hl0 hk]; rfl
      · rw [if_neg hk, hlk hk, e]; omega
    · rw [if_neg e, if_neg (fun e1 => e e1.symm)]
      have := h.cnt m e hm h1
      omega
  · intro m _ hm hk h1
    rw [add_has hd hn] at hm
    rw [add_kind hne] at hk
    rw [add_links hne]
    by_cases e : m = n
    · rw [if_pos e, if_pos (e ▸ hk)]; omega
    · rw [if_neg e]; exact h.dlk m e hm hk h1
  · intro m hm
    rw [add_has hd hn] at hm
    rw [add_names hne, add_most hne]
    have h1 := h.most m hm
    have h2 := h.most dir hd
    have h3 := hlen dir
    split
    · omega
    · omega
  · intro m hm
    rw [add_has hd hn] at hm
    rw [add_links hne]
    have h1 := h.links m hm
    have h2 := h.links n hn
    split
    · split <;> omega
    · omega
  · intro m hm; rw [add_has hd hn] at hm; rw [(add_rest hne m).1]; exact h.high m hm
  · intro m hm; rw [add_has hd hn] at hm; rw [(add_rest hne m).2.1, (add_rest hne m).2.2]; exact h.data m hm
  · intro m hm hk; rw [add_has hd hn] at hm; rw [add_kind hne] at hk; rw [(add_rest hne m).2.1]; exact h.target m hm hk
  · intro m hm hk; rw [add_has hd hn] at hm; rw [add_kind hne] at hk; rw [(add_rest hne m).2.1, (add_rest hne m).2.2]; exact h.dir m hm hk
  · intro i hi; rw [add_fds'] at hi ⊢; rw [add_has hd hn]; exact h.fds i hi
  · intro i hi; rw [add_fds'] at hi; exact h.fd16 i hi
  · intro i hi; rw [add_fds'] at hi ⊢; rw [add_kind hne]; exact h.fdk i hi
  · rw [(add_past s dir name n).1]; have := h.past; omega
  · rw [(add_past s dir name n).2]; have := h.went; omega
end

/- CUT: a name is gone, and counts no more -/
def M.St.cut (s : M.St) (dir : Int) (name : M.Bs) (n : Int) : M.St := (s.set dir { s.nd dir with names := M.del (s.nd dir).names name }).set n { s.nd n with links := (s.nd n).links - 1 }
section
variable {s : M.St} {dir n : Int} {name : M.Bs}
theorem cut_has (hd : s.has dir = true) (hn : s.has n = true) (m : Int) : (s.cut dir name n).has m = s.has m := by
  have hd' : ∀ m, m = dir → s.has m = true := fun m e => e ▸ hd
  have hn' : ∀ m, m = n → s.has m = true := fun m e => e ▸ hn
  unfold M.St.cut
  rw [set_has, set_has]; by_cases e1 : m = n <;> by_cases e2 : m = dir <;> simp_all
theorem cut_nd (m : Int) : (s.cut dir name n).nd m =
    if m = n then { s.nd n with links := (s.nd n).links - 1 }
    else if m = dir then { s.nd dir with names := M.del (s.nd dir).names name } else s.nd m := by
  unfold M.St.cut
  rw [set_nd, set_nd]
theorem cut_names (hne : n ≠ dir) (m : Int) : ((s.cut dir name n).nd m).names = if m = dir then M.del (s.nd dir).names name else (s.nd m).names := by
  rw [cut_nd]; split
  · rename_i e; rw [if_neg (by rw [e]; exact hne), e]
  · split <;> rfl
theorem cut_links (m : Int) : ((s.cut dir name n).nd m).links = if m = n then (s.nd n).links - 1 else (s.nd m).links := by
  rw [cut_nd]; split
  · rfl
  · split
    · rename_i e; rw [e]
    · rfl
theorem cut_rest (m : Int) : ((s.cut dir name n).nd m).kind = (s.nd m).kind ∧ ((s.cut dir name n).nd m).above = (s.nd m).above ∧ ((s.cut dir name n).nd m).high = (s.nd m).high ∧ ((s.cut dir name n).nd m).data = (s.nd m).data ∧ ((s.cut dir name n).nd m).written = (s.nd m).written ∧ ((s.cut dir name n).nd m).most = (s.nd m).most := by
  rw [cut_nd]; split
  · rename_i e; rw [e]; exact ⟨rfl, rfl, rfl, rfl, rfl, rfl⟩
  · split
    · rename_i e; rw [e]; exact ⟨rfl, rfl, rfl, rfl, rfl, rfl⟩
    · exact ⟨rfl, rfl, rfl, rfl, rfl, rfl⟩
theorem cut_cnt (hs : Srt M.ltI s.nodes) (hne : n ≠ dir) (hsd : Srt M.ltB (s.nd dir).names) (hg : M.get (s.nd dir).names name = some n) (c : Int) : cnt (s.cut dir name n) c + (if n = c then 1 else 0) = cnt s c := by
  have h2 := tgt_del hsd c hg
  have h3 := cnt_set hs dir { s.nd dir with names := M.del (s.nd dir).names name } c
  have h4 := cnt_set (s := s.set dir { s.nd dir with names := M.del (s.nd dir).names name }) (put_srt ltI_ok _ _ _ hs) n { s.nd n with links := (s.nd n).links - 1 } c
  simp only [set_nd, if_neg hne] at h3 h4
  unfold M.St.cut
  simp only
  omega

variable {k : Int} {d : Int → Nat}
theorem Wz.cutE (h : Wz 0 k d s) (hd : s.has dir = true) (hg : M.get (s.nd dir).names name = some n) (hne : n ≠ dir) : Wz n k d (s.cut dir name n) ∧ (s.cut dir name n).has n = true ∧ ((s.cut dir name n).nd n).links = Go.Proofs.YtpfaccpmgldkeaaGreatDoor.cnt (s.cut dir name n) n ∧ ((s.nd n).kind = 2 → ((s.cut dir name n).nd n).links = 0) := by
  obtain ⟨hn, hn1, -⟩ := h.child dir hd name n hg
  have hn0 := h.ne0 hn
  have hc := h.cnt n hn0 hn hn1
  have hcp := h.cpos hd hg
  have hcc := cut_cnt h.srt hne (h.nsrt dir hd) hg
  have hl : ((s.cut dir name n).nd n).links = Go.Proofs.YtpfaccpmgldkeaaGreatDoor.cnt (s.cut dir name n) n := by
    have := hcc n
    rw [if_pos rfl] at this
    rw [cut_links, if_pos rfl]
    omega
  have hdl : ∀ m m' c, M.get (M.del (s.nd m).names m') c ≠ none → c ≠ m' := fun m m' c h1 e => h1 (by rw [e, get_del_eq, if_pos rfl])
  refine ⟨⟨?_, by rw [cut_has hd hn]; exact h.root, by rw [(cut_rest 1).1]; exact h.rootK, by rw [(cut_rest 1).2.1]; exact h.rootA, by rw [cut_links, if_neg (fun e => hn1 e.symm)]; exact h.rootL, h.last, ?_, ?_, ?_, ?_, ?_, ?_, ?_, h.droot, ?_, ?_, ?_, ?_, ?_, ?_, ?_, ?_, ?_, ?_, h.fd16, ?_, h.past, h.went⟩, by rw [cut_has hd hn]; exact hn, hl, fun hk => ?_⟩
  · exact put_srt ltI_ok _ _ _ (put_srt ltI_ok _ _ _ h.srt)
  · intro m hm; rw [cut_has hd hn] at hm; exact h.num m hm
  · intro m hm; rw [cut_has hd hn] at hm; rw [(cut_rest m).1]; exact h.kind m hm
  · intro m hm hk
    rw [cut_has hd hn] at hm
    rw [(cut_rest m).1] at hk
    have := h.leaf m hm hk
    rw [cut_names hne, (cut_rest m).2.1]
    refine ⟨?_, this.2⟩
    split
    · rename_i e; rw [← e, this.1]; rfl
    · exact this.1
  · intro m hm
    rw [cut_has hd hn] at hm
    rw [cut_names hne]
    split
    · exact del_srt _ (h.nsrt dir hd)
    · exact h.nsrt m hm
  · intro n' hn' m c hgc
    rw [cut_has hd hn] at hn'
    rw [cut_names hne] at hgc
    rw [cut_has hd hn, (cut_rest c).1, (cut_rest c).2.1]
    by_cases e : n' = dir
    · rw [if_pos e, get_del_eq] at hgc
      split at hgc
      · cases hgc
      · rw [e]; exact h.child dir hd m c hgc
    · rw [if_neg e] at hgc
      exact h.child n' hn' m c hgc
  · intro m hx hm ha
    rw [cut_has hd hn] at hm
    rw [(cut_rest m).2.1] at ha ⊢
    obtain ⟨a1, a2, mm, a3⟩ := h.up m (h.ne0 hm) hm ha
    refine ⟨by rw [cut_has hd hn]; exact a1, by rw [(cut_rest _).1]; exact a2, mm, ?_⟩
    rw [cut_names hne]
    split
    · rename_i e
      rw [get_del_eq, if_neg (fun e2 => by rw [e, e2, hg] at a3; cases a3; exact hx rfl), ← e]
      exact a3
    · exact a3
  · intro m hx hm ha
    rw [cut_has hd hn] at hm
    rw [(cut_rest m).2.1] at ha ⊢
    exact h.tall m (h.ne0 hm) hm ha
  · intro m hx hm hk h1 ha
    rw [cut_has hd hn] at hm
    rw [(cut_rest m).1] at hk
    rw [(cut_rest m).2.1] at ha
    have := h.det m (h.ne0 hm) hm hk h1 ha
    rw [cut_names hne]
    split
    · rename_i e; rw [← e, this]; rfl
    · exact this
  · intro m hx hm h1
    rw [cut_has hd hn] at hm
    have := hcc m
    rw [if_neg (fun e => hx e.symm)] at this
    rw [cut_links, if_neg hx]
    have := h.cnt m (h.ne0 hm) hm h1
    omega
  · intro m hx hm hk h1
    rw [cut_has hd hn] at hm
    rw [(cut_rest m).1] at hk
    rw [cut_links, if_neg hx]
    exact h.dlk m (h.ne0 hm) hm hk h1
  · intro m hm
    rw [cut_has hd hn] at hm
    rw [cut_names hne, (cut_rest m).2.2.2.2.2]
    have h1 := h.most m hm
    have h2 := del_len name (s.nd dir).names
    split
    · rename_i e; rw [e] at h1; rw [e]; omega
    · exact h1
  · intro m hm
    rw [cut_has hd hn] at hm
    rw [cut_links]
    have h1 := h.links m hm
    split
    · have := h.links n hn; omega
    · exact h1
  · intro m hm; rw [cut_has hd hn] at hm; rw [(cut_rest m).2.2.1]; exact h.high m hm
  · intro m hm; rw [cut_has hd hn] at hm; rw [(cut_rest m).2.2.2.1, (cut_rest m).2.2.2.2.1]; exact h.data m hm
  · intro m hm hk; rw [cut_has hd hn] at hm; rw [(cut_rest m).1] at hk; rw [(cut_rest m).2.2.2.1]; exact h.target m hm hk
  · intro m hm hk; rw [cut_has hd hn] at hm; rw [(cut_rest m).1] at hk; rw [(cut_rest m).2.2.2.1, (cut_rest m).2.2.2.2.1]; exact h.dir m hm hk
  · intro i hi; rw [cut_has hd hn]; exact h.fds i hi
  · intro i hi; rw [(cut_rest _).1]; exact h.fdk i hi
  · have := h.dlk n hn0 hn hk hn1
    rw [cut_links, if_pos rfl]
    omega
end

/- A node that was on its way has come to rest. -/
section
variable {k : Int} {d : Int → Nat} {s : M.St} {n : Int}
theorem Wz.rest (h : Wz n k d s) (hn : s.has n = true) (hk : (s.nd n).kind ≠ 2) (hl : (s.nd n).links = Go.Proofs.YtpfaccpmgldkeaaGreatDoor.cnt s n) : Wz 0 k d s :=
  { h with
    up := fun m _ hm ha => h.up m (fun e => ha (by rw [e]; exact (h.leaf n hn hk).2)) hm ha
    tall := fun m _ hm ha => h.tall m (fun e => ha (by rw [e]; exact (h.leaf n hn hk).2)) hm ha
    det := fun m _ hm hk2 => h.det m (fun e => hk (e ▸ hk2)) hm hk2
    cnt := fun m _ hm h1 => by
      by_cases e : m = n
      · rw [e]; exact hl
      · exact h.cnt m e hm h1
    dlk := fun m _ hm hk2 => h.dlk m (fun e => hk (e ▸ hk2)) hm hk2 }

theorem Wz.part (h : Wz n k d s) (hn : s.has n = true) (hn1 : n ≠ 1) (hnm : (s.nd n).names = []) (hk : (s.nd n).kind = 2) (hl : (s.nd n).links = Go.Proofs.YtpfaccpmgldkeaaGreatDoor.cnt s n) (hl0 : (s.nd n).links = 0) : Wz 0 k d (s.set n { s.nd n with above := 0 }) := by
  have hh : ∀ m, (s.set n { s.nd n with above := 0 }).has m = s.has m := fun m => by
    rw [set_has]
    by_cases e : m = n
    · rw [e, hn]; simp
    · simp [e]
  have hkk : ∀ m, ((s.set n { s.nd n with above := 0 }).nd m).kind = (s.nd m).kind ∧ ((s.set n { s.nd n with above := 0 }).nd m).names = (s.nd m).names ∧ ((s.set n { s.nd n with above := 0 }).nd m).links = (s.nd m).links ∧ ((s.set n { s.nd n with above := 0 }).nd m).most = (s.nd m).most ∧ ((s.set n { s.nd n with above := 0 }).nd m).high = (s.nd m).high ∧ ((s.set n { s.nd n with above := 0 }).nd m).data = (s.nd m).data ∧ ((s.set n { s.nd n with above := 0 }).nd m).written = (s.nd m).written := fun m => by
    rw [set_nd]
    split
    · rename_i e; rw [e]; exact ⟨rfl, rfl, rfl, rfl, rfl, rfl, rfl⟩
    · exact ⟨rfl, rfl, rfl, rfl, rfl, rfl, rfl⟩
  have hab : ∀ m, ((s.set n { s.nd n with above := 0 }).nd m).above = if m = n then 0 else (s.nd m).above := fun m => by
    rw [set_nd]
    split <;> rfl
  have hcn : ∀ c, Go.Proofs.YtpfaccpmgldkeaaGreatDoor.cnt (s.set n { s.nd n with above := 0 }) c = Go.Proofs.YtpfaccpmgldkeaaGreatDoor.cnt s c := fun c => by
    have := cnt_set h.srt n { s.nd n with above := 0 } c
    simp only at this ⊢
    omega
  refine ⟨put_srt ltI_ok _ _ _ h.srt, by rw [hh]; exact h.root, by rw [(hkk 1).1]; exact h.rootK, by rw [hab]; split <;> first | rfl | exact h.rootA, by rw [(hkk 1).2.2.1]; exact h.rootL, h.last, ?_, ?_, ?_, ?_, ?_, ?_, ?_, h.droot, ?_, ?_, ?_, ?_, ?_, ?_, ?_, ?_, ?_, ?_, h.fd16, ?_, h.past, h.went⟩
  · intro m hm; rw [hh] at hm; exact h.num m hm
  · intro m hm; rw [hh] at hm; rw [(hkk m).1]; exact h.kind m hm
  · intro m hm hk2
    rw [hh] at hm
    rw [(hkk m).1] at hk2
    rw [(hkk m).2.1, hab]
    have := h.leaf m hm hk2
    refine ⟨this.1, ?_⟩
    split
    · rfl
    · exact this.2
  · intro m hm; rw [hh] at hm; rw [(hkk m).2.1]; exact h.nsrt m hm
  · intro n' hn' m c hgc
    rw [hh] at hn'
    rw [(hkk n').2.1] at hgc
    rw [hh, (hkk c).1, hab, if_neg (fun e => by have := h.cpos hn' hgc; rw [e] at this; omega)]
    exact h.child n' hn' m c hgc
  · intro m _ hm ha
    rw [hh] at hm
    rw [hab] at ha ⊢
    split at ha
    · exact absurd rfl ha
    · rename_i e
      rw [if_neg e]
      rw [hh, (hkk _).1, (hkk _).2.1]
      exact h.up m e hm ha
  · intro m _ hm ha
    rw [hh] at hm
    rw [hab] at ha ⊢
    split at ha
    · exact absurd rfl ha
    · rename_i e
      rw [if_neg e]
      exact h.tall m e hm ha
  · intro m _ hm hk2 h1 ha
    rw [hh] at hm
    rw [(hkk m).1] at hk2
    rw [(hkk m).2.1]
    rw [hab] at ha
    by_cases e : m = n
    · rw [e]; exact hnm
    · rw [if_neg e] at ha
      exact h.det m e hm hk2 h1 ha
  · intro m _ hm h1
    rw [hh] at hm
    rw [(hkk m).2.2.1, hcn]
    by_cases e : m = n
    · rw [e]; exact hl
    · exact h.cnt m e hm h1
  · intro m _ hm hk2 h1
    rw [hh] at hm
    rw [(hkk m).1] at hk2
    rw [(hkk m).2.2.1]
    by_cases e : m = n
    · rw [e, hl0]; decide
    · exact h.dlk m e hm hk2 h1
  · intro m hm; rw [hh] at hm; rw [(hkk m).2.1, (hkk m).2.2.2.1]; exact h.most m hm
  · intro m hm; rw [hh] at hm; rw [(hkk m).2.2.1]; exact h.links m hm
  · intro m hm; rw [hh] at hm; rw [(hkk m).2.2.2.2.1]; exact h.high m hm
  · intro m hm; rw [hh] at hm; rw [(hkk m).2.2.2.2.2.1, (hkk m).2.2.2.2.2.2]; exact h.data m hm
  · intro m hm hk2; rw [hh] at hm; rw [(hkk m).1] at hk2; rw [(hkk m).2.2.2.2.2.1]; exact h.target m hm hk2
  · intro m hm hk2; rw [hh] at hm; rw [(hkk m).1] at hk2; rw [(hkk m).2.2.2.2.2.1, (hkk m).2.2.2.2.2.2]; exact h.dir m hm hk2
  · intro i hi; rw [hh]; exact h.fds i hi
  · intro i hi; rw [(hkk _).1]; exact h.fdk i hi

/- FORGET -/
theorem small5000 {y : M.Nd} (h1 : y.most ≤ 10000) (h2 : 0 ≤ y.most) (h3 : y.high ≤ 5000) (h4 : y.written.length ≤ 162) : 0 ≤ y.blocks ∧ y.greatest ≤ 5000 := by
  have hb : 0 ≤ y.blocks ∧ y.blocks ≤ 5000 := by
    unfold M.Nd.blocks
    split
    · omega
    · split
      · omega
      · rw [fileBlocks_eq]
        have a1 := cntB_le y.written y.written.length
        have a2 := secN_le y.written 12
        have a3 : ∀ b, 0 ≤ b01 b ∧ b01 b ≤ 1 := fun b => by unfold b01; split <;> omega
        have a4 := a3 (oneB y.written y.written.length)
        have a5 := a3 (twoB y.written y.written.length)
        omega
  unfold M.Nd.greatest
  omega

theorem Wz.great (h : Wz 0 k d s) (hk : k ≤ 10000) {m : Int} (hm : s.has m = true) : 0 ≤ (s.nd m).greatest ∧ (s.nd m).greatest ≤ 5000 := by
  have h1 := h.most m hm
  have h2 := h.high m hm
  have h3 := h.data m hm
  have h4 := small5000 (y := s.nd m) (by omega) (by omega) h2.2 h3.2
  refine ⟨?_, h4.2⟩
  unfold M.Nd.greatest
  omega

theorem forget_nd_has (s : M.St) (n : Int) (h : s.has n = true ∧ (s.nd n).links = 0 ∧ n ≠ 1 ∧ s.holds n = false) : (∀ m, (s.forget n).has m = (decide (m ≠ n) && s.has m)) ∧ (∀ m, m ≠ n → (s.forget n).nd m = s.nd m) ∧ (s.forget n).nodes = M.del s.nodes n ∧ (s.forget n).fds = s.fds ∧ (s.forget n).last = s.last ∧ (s.forget n).past = s.past + (s.nd n).greatest ∧ (s.forget n).went = s.went + 1 := by
  unfold M.St.forget
  rw [if_pos h]
  refine ⟨fun m => ?_, fun m hm => ?_, rfl, rfl, rfl, rfl, rfl⟩
  · unfold M.St.has
    simp only [get_del_eq]
    by_cases e : m = n <;> simp [e]
  · unfold M.St.nd
    simp only [get_del_eq, if_neg hm]

theorem holds_no {s : M.St} {n : Int} (h16 : ∀ i, (s.fds i).opn = true → i < 16) (h : s.holds n = false) {i : Nat} (hi : (s.fds i).opn = true) : (s.fds i).node ≠ n := fun e => by
  unfold M.St.holds at h
  rw [List.any_eq_false] at h
  exact h i (List.mem_range.2 (h16 i hi)) (by simp [hi, e])

theorem Wz.forget (h : Wz 0 k d s) (hk : k ≤ 9000) (n : Int) : Wz 0 (k + 1) d (s.forget n) := by
  by_cases hc : s.has n = true ∧ (s.nd n).links = 0 ∧ n ≠ 1 ∧ s.holds n = false
  · obtain ⟨hh, hnd, hno, hfd, hla, hpa, hwe⟩ := forget_nd_has s n hc
    obtain ⟨hn, hl0, hn1, hho⟩ := hc
    have hc0 : Go.Proofs.YtpfaccpmgldkeaaGreatDoor.cnt s n = 0 := by have := h.cnt n (h.ne0 hn) hn hn1; omega
    have hnone : ∀ n', s.has n' = true → ∀ m, M.get (s.nd n').names m ≠ some n := fun n' hn' m hg => by have := h.cpos hn' hg; omega
    have ha0 : (s.nd n).above = 0 := by
      by_cases e : (s.nd n).above = 0
      · exact e
      · obtain ⟨a1, a2, mm, a3⟩ := h.up n (h.ne0 hn) hn e
        exact absurd a3 (hnone _ a1 _)
    have hnm : (s.nd n).names = [] := by
      by_cases e : (s.nd n).kind = 2
      · exact h.det n (h.ne0 hn) hn e hn1 ha0
      · exact (h.leaf n hn e).1
    have hab : ∀ m, s.has m = true → (s.nd m).above ≠ n := fun m hm e => by
      have h0 : (s.nd m).above ≠ 0 := by rw [e]; exact h.ne0 hn
      obtain ⟨a1, a2, mm, a3⟩ := h.up m (h.ne0 hm) hm h0
      rw [e, hnm] at a3
      simp [M.get] at a3
    have hcn : ∀ c, Go.Proofs.YtpfaccpmgldkeaaGreatDoor.cnt (s.forget n) c = Go.Proofs.YtpfaccpmgldkeaaGreatDoor.cnt s c := fun c => by
      have := cnt_del h.srt n c hno
      rw [hnm, tgt_nil] at this
      omega
    have hm1 : ∀ m, (s.forget n).has m = true → m ≠ n ∧ s.has m = true := fun m hm => by
      rw [hh] at hm
      simpa using hm
    have hm2 : ∀ m, m ≠ n → s.has m = true → (s.forget n).has m = true := fun m h1 h2 => by
      rw [hh]
      simp [h1, h2]
    have hgr := h.great (by omega) hn
    refine ⟨by rw [hno]; exact del_srt _ h.srt, hm2 1 (fun e => hn1 e.symm) h.root, by rw [hnd 1 (fun e => hn1 e.symm)]; exact h.rootK, by rw [hnd 1 (fun e => hn1 e.symm)]; exact h.rootA, by rw [hnd 1 (fun e => hn1 e.symm)]; exact h.rootL, by rw [hla]; have := h.last; omega, ?_, ?_, ?_, ?_, ?_, ?_, ?_, h.droot, ?_, ?_, ?_, ?_, ?_, ?_, ?_, ?_, ?_, ?_, ?_, ?_, ?_, ?_⟩
    · intro m hm; obtain ⟨e, hm⟩ := hm1 m hm; rw [hla]; exact h.num m hm
    · intro m hm; obtain ⟨e, hm⟩ := hm1 m hm; rw [hnd m e]; exact h.kind m hm
    · intro m hm; obtain ⟨e, hm⟩ := hm1 m hm; rw [hnd m e]; exact h.leaf m hm
    · intro m hm; obtain ⟨e, hm⟩ := hm1 m hm; rw [hnd m e]; exact h.nsrt m hm
    · intro n' hn' m c hgc
      obtain ⟨e, hn'⟩ := hm1 n' hn'
      rw [hnd n' e] at hgc
      have ec : c ≠ n := fun ec => hnone n' hn' m (ec ▸ hgc)
      obtain ⟨a1, a2⟩ := h.child n' hn' m c hgc
      rw [hnd c ec]
      exact ⟨hm2 c ec a1, a2⟩
    · intro m _ hm ha
      obtain ⟨e, hm⟩ := hm1 m hm
      rw [hnd m e] at ha ⊢
      obtain ⟨a1, a2⟩ := h.up m (h.ne0 hm) hm ha
      rw [hnd _ (hab m hm)]
      exact ⟨hm2 _ (hab m hm) a1, a2⟩
    · intro m _ hm ha
      obtain ⟨e, hm⟩ := hm1 m hm
      rw [hnd m e] at ha ⊢
      exact h.tall m (h.ne0 hm) hm ha
    · intro m _ hm
      obtain ⟨e, hm⟩ := hm1 m hm
      rw [hnd m e]
      exact h.det m (h.ne0 hm) hm
    · intro m _ hm h1
      obtain ⟨e, hm⟩ := hm1 m hm
      rw [hnd m e, hcn]
      exact h.cnt m (h.ne0 hm) hm h1
    · intro m _ hm
      obtain ⟨e, hm⟩ := hm1 m hm
      rw [hnd m e]
      exact h.dlk m (h.ne0 hm) hm
    · intro m hm; obtain ⟨e, hm⟩ := hm1 m hm; rw [hnd m e]; have := h.most m hm; omega
    · intro m hm; obtain ⟨e, hm⟩ := hm1 m hm; rw [hnd m e]; have := h.links m hm; omega
    · intro m hm; obtain ⟨e, hm⟩ := hm1 m hm; rw [hnd m e]; exact h.high m hm
    · intro m hm; obtain ⟨e, hm⟩ := hm1 m hm; rw [hnd m e]; exact h.data m hm
    · intro m hm; obtain ⟨e, hm⟩ := hm1 m hm; rw [hnd m e]; exact h.target m hm
    · intro m hm; obtain ⟨e, hm⟩ := hm1 m hm; rw [hnd m e]; exact h.dir m hm
    · intro i hi
      rw [hfd] at hi ⊢
      have e := holds_no h.fd16 hho hi
      obtain ⟨a1, a2⟩ := h.fds i hi
      exact ⟨hm2 _ e a1, a2⟩
    · intro i hi; rw [hfd] at hi; exact h.fd16 i hi
    · intro i hi
      rw [hfd] at hi ⊢
      rw [hnd _ (holds_no h.fd16 hho hi)]
      exact h.fdk i hi
    · rw [hpa]; have := h.past; omega
    · rw [hwe]; have := h.went; omega
  · unfold M.St.forget
    rw [if_neg hc]
    exact h.mono (by omega)

/- TAKE -/
theorem take_eq {s : M.St} {dir : Int} {name : M.Bs} {n : Int} (hg : M.get (s.nd dir).names name = some n) (hne : n ≠ dir) : s.take dir name = (if (s.nd n).kind = 2 then (s.cut dir name n).set n { (s.cut dir name n).nd n with above := 0 } else s.cut dir name n).forget n := by
  unfold M.St.take
  simp only [hg, Option.getD_some, set_nd, if_neg hne]
  congr 1
  split
  · rw [cut_nd, if_pos rfl]
    unfold M.St.cut
    rw [set_set]
  · rfl

theorem Wz.take (h : Wz 0 k d s) (hk : k ≤ 9000) {dir : Int} {name : M.Bs} (hd : s.has dir = true) (hg : M.get (s.nd dir).names name = some n) (hne : n ≠ dir) (he : (s.nd n).kind = 2 → (s.nd n).names = []) : Wz 0 (k + 1) d (s.take dir name) := by
  obtain ⟨h1, h2, h3, h4⟩ := h.cutE hd hg hne
  have hn1 := (h.child dir hd name n hg).2.1
  rw [take_eq hg hne]
  refine Wz.forget ?_ hk n
  split
  · rename_i hk2
    refine h1.part h2 hn1 ?_ (by rw [(cut_rest n).1]; exact hk2) h3 (h4 hk2)
    rw [cut_names hne, if_neg hne]
    exact he hk2
  · rename_i hk2
    exact h1.rest h2 (by rw [(cut_rest n).1]; exact hk2) h3
end
end Go.Proofs.YtpfaccpmgldkeaaGreatDoor

namespace Go.Proofs.YtpfaccpmgldkeaaGreatDoor
open Go.RowKit Go.MapKept Go.ChangeMaps

/- NAMES -/
theorem cutAt_good : ∀ (l acc : M.Bs), M.slash ∉ acc → ∀ x ∈ M.cutAt acc l, M.slash ∉ x
  | [], acc, h, x, hx => by
    simp only [M.cutAt, List.mem_singleton] at hx
    rw [hx, List.mem_reverse]; exact h
  | c :: l, acc, h, x, hx => by
    unfold M.cutAt at hx
    split at hx
    · rcases List.mem_cons.1 hx with e | hx
      · rw [e, List.mem_reverse]; exact h
      · exact cutAt_good l [] (by simp) x hx
    · rename_i hc
      refine cutAt_good l (c :: acc) ?_ x hx
      intro hm
      rcases List.mem_cons.1 hm with e | hm
      · exact hc e.symm
      · exact h hm
theorem partsGo_good : ∀ (ps out : List M.Bs), (∀ x ∈ out, x ≠ [] ∧ M.slash ∉ x) → (∀ x ∈ ps, M.slash ∉ x) → ∀ x ∈ (M.partsGo out ps).1, x ≠ [] ∧ M.slash ∉ x
  | [], out, ho, _, x, hx => ho x (by simpa [M.partsGo] using hx)
  | p :: ps, out, ho, hp, x, hx => by
    unfold M.partsGo at hx
    split at hx
    · exact partsGo_good ps out ho (fun y hy => hp y (List.mem_cons_of_mem _ hy)) x hx
    · rename_i h1
      split at hx
      · cases hx
      · refine partsGo_good ps _ ?_ (fun y hy => hp y (List.mem_cons_of_mem _ hy)) x hx
        intro y hy
        rcases List.mem_append.1 hy with hy | hy
        · exact ho y hy
        · have e : y = p := by simpa using hy
          rw [e]
          exact ⟨fun e => h1 (Or.inl e), hp p List.mem_cons_self⟩
theorem parts_good (l : M.Bs) : ∀ x ∈ (M.parts l).1, x ≠ [] ∧ M.slash ∉ x := partsGo_good _ _ (by simp) (cutAt_good _ _ (by simp))
theorem splitP_good (p : M.Bs) : ∀ x ∈ (M.splitP p).1, x ≠ [] ∧ M.slash ∉ x := by
  intro x hx
  unfold M.splitP at hx
  split at hx
  · cases hx
  · split at hx
    · cases hx
    · exact parts_good p x hx
theorem lastP_good {l : M.Bs} (h : (M.lastP l).2.2 = 0) : (M.lastP l).2.1.length ≤ 24 ∧ M.slash ∉ (M.lastP l).2.1 ∧ (M.lastP l).2.1 ≠ [] := by
  refine ⟨(lastP_name h).1, ?_⟩
  unfold M.lastP at h ⊢
  by_cases hc : (M.splitP l).2 = 0
  · rw [if_neg (by rw [hc]; simp)] at h ⊢
    cases hg : (M.splitP l).1.getLast? with
    | none => simp [hg] at h
    | some x =>
      simp only [hg] at h ⊢
      split
      · rename_i hx; simp [hx] at h
      · have := splitP_good l x (List.mem_of_getLast? hg)
        exact ⟨this.2, this.1⟩
  · rw [if_pos hc] at h ⊢
    exact absurd h hc

/- WHAT PATHS FIND -/
/-- A node is within reach from the root, or no directory. -/
def Att (s : M.St) (n : Int) : Prop := n = 1 ∨ (s.nd n).above ≠ 0 ∨ (s.nd n).kind ≠ 2
section
variable {k : Int} {d : Int → Nat} {s : M.St}
theorem Wz.att_up (h : Wz 0 k d s) {n : Int} (hn : s.has n = true) (ha : (s.nd n).above ≠ 0) : (s.nd n).above = 1 ∨ (s.nd (s.nd n).above).above ≠ 0 := by
  obtain ⟨a1, a2, m, a3⟩ := h.up n (h.ne0 hn) hn ha
  by_cases e : (s.nd n).above = 1
  · exact Or.inl e
  · right
    intro e2
    rw [h.det _ (h.ne0 a1) a1 a2 e e2] at a3
    simp [M.get] at a3
theorem Wz.att_above (h : Wz 0 k d s) {n : Int} (hn : s.has n = true) (ha : Att s n) : Att s (s.above n) := by
  unfold M.St.above
  split
  · rename_i h1
    rcases h.att_up hn h1 with e | e
    · exact Or.inl e
    · exact Or.inr (Or.inl e)
  · exact ha
theorem Wz.att_child (h : Wz 0 k d s) {n : Int} (hn : s.has n = true) {m : M.Bs} {c : Int} (hg : M.get (s.nd n).names m = some c) : Att s c := by
  by_cases hk : (s.nd c).kind = 2
  · right; left
    rw [(h.child n hn m c hg).2.2.2.2.2 hk]
    exact h.ne0 hn
  · exact Or.inr (Or.inr hk)
theorem walk_att (h : Wz 0 k d s) (fo : Bool) : ∀ (f : Nat) (sp : M.Spot) (hops : Nat) (ps : List M.Bs), s.has sp.node = true → Att s sp.node → (s.walk fo f sp hops ps).2 = 0 → Att s (s.walk fo f sp hops ps).1.node
  | 0, sp, _, _, _, hk, _ => hk
  | f + 1, sp, hops, [], _, hk, _ => hk
  | f + 1, sp, hops, p :: ps, hn, hk, h0 => by
    unfold M.St.walk at h0 ⊢
    split at h0
    · cases h0
    · rename_i h1
      rw [if_neg h1]
      split at h0
      · rename_i h2
        rw [if_pos h2]
        exact walk_att h fo f _ _ _ (h.wf.above hn) (h.att_above hn hk) h0
      · rename_i h2
        rw [if_neg h2]
        cases hg : M.get (s.nd sp.node).names p with
        | none => simp [hg] at h0
        | some c =>
          simp only [hg] at h0 ⊢
          split at h0
          · rename_i h3
            rw [if_pos h3]
            split at h0
            · cases h0
            · rename_i h4
              rw [if_neg h4]
              refine walk_att h fo f _ _ _ ?_ ?_ h0
              · split
                · exact h.root
                · exact hn
              · split
                · exact Or.inl rfl
                · exact hk
          · rename_i h3
            rw [if_neg h3]
            exact walk_att h fo f _ _ _ (h.child _ hn _ _ hg).1 (h.att_child hn hg) h0
theorem find_att (h : Wz 0 k d s) {p : M.Bs} {fo : Bool} (h0 : (s.find p fo).2 = 0) : Att s (s.find p fo).1.node := by
  unfold M.St.find at h0 ⊢
  split at h0
  · rename_i h; exact absurd h0 h
  · rename_i h1
    rw [if_neg h1]
    exact walk_att h fo _ _ _ _ h.root (Or.inl rfl) h0

/-- What a place is. -/
structure Spotted (s : M.St) (q : M.Spot) : Prop where
  has : s.has q.dir = true
  kind : (s.nd q.dir).kind = 2
  att : q.dir = 1 ∨ (s.nd q.dir).above ≠ 0
  name : q.name.length ≤ 24 ∧ M.slash ∉ q.name ∧ q.name ≠ []
  none : q.node = 0 → M.get (s.nd q.dir).names q.name = none
  some : q.node ≠ 0 → M.get (s.nd q.dir).names q.name = some q.node
  short : M.long (s.way s.deepest q.dir ++ [q.name]) = false
theorem place_full (h : Wz 0 k d s) {p : M.Bs} (h0 : (s.place p).2 = 0) : Spotted s (s.place p).1 := by
  by_cases h1 : (M.lastP p).2.2 = 0
  · by_cases h2 : (s.find (M.lastP p).1 true).2 = 0
    · by_cases h3 : (s.nd (s.find (M.lastP p).1 true).1.node).kind = 2
      · cases h4 : M.long (s.way s.deepest (s.find (M.lastP p).1 true).1.node ++ [(M.lastP p).2.1])
        · rw [place_ok h1 h2 h3 h4]
          have hh := find_has h.wf.cl h2
          refine ⟨hh, h3, ?_, lastP_good h1, fun hn => ?_, fun hn => ?_, h4⟩
          · rcases find_att h h2 with e | e | e
            · exact Or.inl e
            · exact Or.inr e
            · exact absurd h3 e
          · simp only at hn ⊢
            cases hg : M.get (s.nd (s.find (M.lastP p).1 true).1.node).names (M.lastP p).2.1 with
            | none => rfl
            | some c =>
              rw [hg] at hn
              exact absurd hn (h.ne0 (h.child _ hh _ _ hg).1)
          · simp only at hn ⊢
            cases hg : M.get (s.nd (s.find (M.lastP p).1 true).1.node).names (M.lastP p).2.1 with
            | none => rw [hg] at hn; exact absurd rfl hn
            | some c => rfl
        · rw [place_long h1 h2 h3 h4] at h0; cases h0
      · rw [place_notdir h1 h2 h3] at h0; cases h0
    · rw [place_lost h1 h2] at h0; exact absurd h0 h2
  · rw [place_bad h1] at h0; exact absurd h0 h1
theorem fresh_full (h : Wz 0 k d s) {p : M.Bs} (h0 : (s.fresh p).2 = 0) : Spotted s (s.fresh p).1 ∧ (s.fresh p).1.node = 0 := by
  unfold M.St.fresh at h0 ⊢
  simp only at h0 ⊢
  split at h0
  · rename_i h1; exact absurd h0 h1
  · rename_i h1
    rw [if_neg h1]
    split at h0
    · cases h0
    · rename_i h2
      rw [if_neg h2]
      exact ⟨place_full h (by simpa using h1), by simpa using h2⟩

/- DEPTHS -/
theorem way_depth (h : Wz 0 k d s) : ∀ (f : Nat) (c : Int), s.has c = true → (c = 1 ∨ (s.nd c).above ≠ 0) → d c ≤ f → (s.way f c).length = d c
  | 0, c, _, _, hf => by simp [M.St.way]; omega
  | f + 1, c, hc, ha, hf => by
    by_cases e : c = 1
    · rw [way_end (Or.inl e), e, h.droot]; rfl
    · have ha' : (s.nd c).above ≠ 0 := ha.resolve_left e
      obtain ⟨m, _, _, _, hw⟩ := way_step h.wf hc e ha'
      have ht := (h.tall c (h.ne0 hc) hc ha').1
      rw [hw, List.length_append, way_depth h f _ (h.up c (h.ne0 hc) hc ha').1 (h.att_up hc ha') (by omega), ht]
      rfl
theorem d_le (h : Wz 0 k d s) {c : Int} (hc : s.has c = true) (ha : c = 1 ∨ (s.nd c).above ≠ 0) : d c ≤ 20 := by
  rcases ha with e | e
  · rw [e, h.droot]; omega
  · exact (h.tall c (h.ne0 hc) hc e).2
theorem Spotted.depth (h : Wz 0 k d s) {q : M.Spot} (hq : Spotted s q) : d q.dir + 1 ≤ 20 := by
  have h1 := hq.short
  have h2 := way_depth h 21 q.dir hq.has hq.att (by have := d_le h hq.has hq.att; omega)
  unfold M.long at h1
  simp only [M.St.deepest, Bool.or_eq_false_iff, decide_eq_false_iff_not, List.length_append, h2, List.length_cons, List.length_nil] at h1
  omega
theorem Sub.ge (h : Wz 0 k d s) {n m : Int} (hs : Sub s n m) : d n ≤ d m := by
  induction hs with
  | refl => exact Nat.le_refl _
  | step h1 h2 h3 _ ih => have := (h.tall _ (h.ne0 h2) h2 h3).1; omega
theorem deep_long {f : Nat} {n : Int} {ps : List M.Bs} (h : s.deep f n ps = false) : M.long ps = false := by
  cases f with
  | zero => exact h
  | succ f => unfold M.St.deep at h; simp only [Bool.or_eq_false_iff] at h; exact h.1
theorem deep_sub (h : Wz 0 k d s) {n : Int} {ps : List M.Bs} (hdp : s.deep 21 n ps = false) {m : Int} (hs : Sub s n m) : ∃ ps' : List M.Bs, ps'.length = ps.length + (d m - d n) ∧ s.deep (21 - (d m - d n)) m ps' = false := by
  induction hs with
  | refl => exact ⟨ps, by simp, by simpa using hdp⟩
  | @step m h1 h2 h3 h4 ih =>
    obtain ⟨ps', e1, e2⟩ := ih
    obtain ⟨t1, t2⟩ := h.tall m (h.ne0 h2) h2 h3
    have hge := Sub.ge h h4
    obtain ⟨a1, a2, mm, a3⟩ := h.up m (h.ne0 h2) h2 h3
    refine ⟨ps' ++ [mm], by rw [List.length_append, e1, t1]; simp; omega, ?_⟩
    rw [show 21 - (d (s.nd m).above - d n) = (21 - (d m - d n)) + 1 by omega] at e2
    unfold M.St.deep at e2
    simp only [Bool.or_eq_false_iff, List.any_eq_false] at e2
    have := e2.2 (mm, m) (mem_of_get a3)
    simpa using this
theorem deep_bound (h : Wz 0 k d s) {n : Int} {ps : List M.Bs} (hdp : s.deep s.deepest n ps = false) {m : Int} (hs : Sub s n m) : ps.length + (d m - d n) ≤ 20 := by
  obtain ⟨ps', e1, e2⟩ := deep_sub h hdp hs
  have := deep_long e2
  unfold M.long at this
  simp only [Bool.or_eq_false_iff, decide_eq_false_iff_not] at this
  omega
theorem within_sub (h : Wz 0 k d s) {n m : Int} (hs : Sub s n m) : ∀ f, d m ≤ f → s.within f m n = true := by
  induction hs with
  | refl => intro f _; cases f <;> simp [M.St.within]
  | @step m h1 h2 h3 h4 ih =>
    intro f hf
    have := (h.tall m (h.ne0 h2) h2 h3).1
    cases f with
    | zero => omega
    | succ f =>
      unfold M.St.within
      rw [if_neg h1, if_neg h3]
      exact ih f (by omega)
theorem Sub.of {s' : M.St} {n m : Int} (hs : Sub s' n m) (hh : ∀ m, s'.has m = true → s.has m = true) (ha : ∀ m, s'.has m = true → (s'.nd m).above ≠ 0 → (s'.nd m).above = (s.nd m).above) : Sub s n m := by
  induction hs with
  | refl => exact .refl
  | step h1 h2 h3 _ ih =>
    have e := ha _ h2 h3
    exact .step h1 (hh _ h2) (e ▸ h3) (e ▸ ih)

/- MOVES -/
theorem Wz.move (h : Wz 0 k d s) {n adir bdir : Int} {aname bname : M.Bs} (had : s.has adir = true) (hga : M.get (s.nd adir).names aname = some n) (hne : n ≠ adir)
    (hbd : s.has bdir = true) (hbk : (s.nd bdir).kind = 2) (hatt : bdir = 1 ∨ (s.nd bdir).above ≠ 0) (hgb : M.get (s.nd bdir).names bname = none) (hgood : bname.length ≤ 24 ∧ M.slash ∉ bname ∧ bname ≠ [])
    (hsub : (s.nd n).kind = 2 → ¬ Sub s n bdir) (hdeep : (s.nd n).kind = 2 → ∀ m, s.has m = true → Sub s n m → d m + d bdir + 1 ≤ 20 + d n) : ∃ d', Wz 0 (k + 1) d' ((s.cut adir aname n).add bdir bname n) := by
  obtain ⟨h1, h2, h3, h4⟩ := h.cutE had hga hne
  obtain ⟨hn, hn1, -⟩ := h.child adir had aname n hga
  have hsc : ∀ m, Sub (s.cut adir aname n) n m → Sub s n m := fun m hs => hs.of (fun m hm => by rw [cut_has had hn] at hm; exact hm) (fun m _ _ => (cut_rest m).2.1)
  have hnb : n ≠ bdir := fun e => by
    by_cases hk : (s.nd n).kind = 2
    · exact hsub hk (e ▸ .refl)
    · exact hk (e ▸ hbk)
  refine h1.add h2 hn1 (by rw [cut_has had hn]; exact hbd) (by rw [(cut_rest bdir).1]; exact hbk) hnb ?_ ?_ hgood (fun _ => h3) (fun hk => ?_) (fun hk hs => ?_) (fun hk m hm hs => ?_)
  · rw [(cut_rest bdir).2.1]; exact hatt
  · rw [cut_names hne]
    split
    · rename_i e
      rw [get_del_eq, ← e, hgb]
      split <;> rfl
    · exact hgb
  · rw [(cut_rest n).1] at hk
    have := h4 hk
    omega
  · rw [(cut_rest n).1] at hk
    exact hsub hk (hsc _ hs)
  · rw [(cut_rest n).1] at hk
    rw [cut_has had hn] at hm
    exact hdeep hk m hm (hsc _ hs)

/- NEW NODES -/
theorem sum_some {α : Type} (f : α → Nat) : ∀ (l : List α), 1 ≤ (l.map f).sum → ∃ p ∈ l, 1 ≤ f p
  | [], h => by simp at h
  | p :: l, h => by
    by_cases e : 1 ≤ f p
    · exact ⟨p, List.mem_cons_self, e⟩
    · obtain ⟨q, hq, h2⟩ := sum_some f l (by simp at h; omega)
      exact ⟨q, List.mem_cons_of_mem _ hq, h2⟩
theorem Wz.no_cnt (h : Wz 0 k d s) {n : Int} (hn : s.has n = false) : Go.Proofs.YtpfaccpmgldkeaaGreatDoor.cnt s n = 0 := by
  rcases Nat.eq_zero_or_pos (Go.Proofs.YtpfaccpmgldkeaaGreatDoor.cnt s n) with e | e
  · exact e
  · obtain ⟨p, hp, h1⟩ := sum_some _ _ e
    have hg : M.get s.nodes p.1 = some p.2 := get_mem (srt_keys h.srt) hp
    obtain ⟨g1, g2⟩ := get_has hg
    have hs := h.nsrt p.1 g1
    rw [g2] at hs
    obtain ⟨m, hm⟩ := tgt_some hs h1
    have := (h.child p.1 g1 m n (by rw [g2]; exact hm)).1
    rw [hn] at this
    cases this

/-- A node that has no name yet. -/
def M.St.born (s : M.St) (kind : Int) (data : M.Bs) : M.St := { (s.set (s.last + 1) { kind := kind, data := if kind = 3 then data else [] }) with last := s.last + 1 }
theorem born_has (m : Int) (kind : Int) (data : M.Bs) : (s.born kind data).has m = (decide (m = s.last + 1) || s.has m) := set_has s _ _ m
theorem born_nd (m : Int) (kind : Int) (data : M.Bs) : (s.born kind data).nd m = if m = s.last + 1 then { kind := kind, data := if kind = 3 then data else [] } else s.nd m := set_nd s _ _ m
theorem Wz.born (h : Wz 0 k d s) (kind : Int) (data : M.Bs) (hk : kind = 1 ∨ kind = 2 ∨ kind = 3) (hdt : kind = 3 → data.length ≤ 100) : Wz (s.last + 1) (k + 1) d (s.born kind data) := by
  have hno := h.wf.free
  have hm1 : ∀ m, m ≠ s.last + 1 → (s.born kind data).has m = true → s.has m = true := fun m e hm => by
    rw [born_has] at hm; simpa [e] using hm
  have hm2 : ∀ m, s.has m = true → (s.born kind data).has m = true := fun m hm => by rw [born_has, hm]; simp
  have hm3 : ∀ m, s.has m = true → m ≠ s.last + 1 := fun m hm e => by rw [e, hno] at hm; cases hm
  have hnd : ∀ m, m ≠ s.last + 1 → (s.born kind data).nd m = s.nd m := fun m e => by rw [born_nd, if_neg e]
  have hnn : (s.born kind data).nd (s.last + 1) = { kind := kind, data := if kind = 3 then data else [] } := by rw [born_nd, if_pos rfl]
  have hcn : ∀ c, Go.Proofs.YtpfaccpmgldkeaaGreatDoor.cnt (s.born kind data) c = Go.Proofs.YtpfaccpmgldkeaaGreatDoor.cnt s c := fun c => by
    have := cnt_set h.srt (s.last + 1) { kind := kind, data := if kind = 3 then data else [] } c
    rw [nd_none hno] at this
    simp only [tgt_nil] at this
    exact this
  have hl := h.last
  refine ⟨put_srt ltI_ok _ _ _ h.srt, hm2 1 h.root, by rw [hnd 1 (hm3 1 h.root)]; exact h.rootK, by rw [hnd 1 (hm3 1 h.root)]; exact h.rootA, by rw [hnd 1 (hm3 1 h.root)]; exact h.rootL, ?_, ?_, ?_, ?_, ?_, ?_, ?_, ?_, h.droot, ?_, ?_, ?_, ?_, ?_, ?_, ?_, ?_, ?_, ?_, h.fd16, ?_, ?_, ?_⟩
  · show 1 ≤ s.last + 1 ∧ s.last + 1 ≤ k + 1 + 1; omega
  · intro m hm
    show 1 ≤ m ∧ m ≤ s.last + 1
    by_cases e : m = s.last + 1
    · omega
    · have := h.num m (hm1 m e hm); omega
  · intro m hm
    by_cases e : m = s.last + 1
    · rw [e, hnn]; exact hk
    · rw [hnd m e]; exact h.kind m (hm1 m e hm)
  · intro m hm
    by_cases e : m = s.last + 1
    · rw [e, hnn]; exact fun _ => ⟨rfl, rfl⟩
    · rw [hnd m e]; exact h.leaf m (hm1 m e hm)
  · intro m hm
    by_cases e : m = s.last + 1
    · rw [e, hnn]; exact List.Pairwise.nil
    · rw [hnd m e]; exact h.nsrt m (hm1 m e hm)
  · intro n hn m c hg
    by_cases e : n = s.last + 1
    · rw [e, hnn] at hg; simp [M.get] at hg
    · rw [hnd n e] at hg
      obtain ⟨a1, a2⟩ := h.child n (hm1 n e hn) m c hg
      rw [hnd c (hm3 c a1)]
      exact ⟨hm2 c a1, a2⟩
  · intro m e hm ha
    rw [hnd m e] at ha ⊢
    have hm' := hm1 m e hm
    obtain ⟨a1, a2⟩ := h.up m (h.ne0 hm') hm' ha
    rw [hnd _ (hm3 _ a1)]
    exact ⟨hm2 _ a1, a2⟩
  · intro m e hm ha
    rw [hnd m e] at ha ⊢
    have hm' := hm1 m e hm
    exact h.tall m (h.ne0 hm') hm' ha
  · intro m e hm
    rw [hnd m e]
    have hm' := hm1 m e hm
    exact h.det m (h.ne0 hm') hm'
  · intro m e hm h1
    rw [hnd m e, hcn]
    have hm' := hm1 m e hm
    exact h.cnt m (h.ne0 hm') hm' h1
  · intro m e hm
    rw [hnd m e]
    have hm' := hm1 m e hm
    exact h.dlk m (h.ne0 hm') hm'
  · intro m hm
    by_cases e : m = s.last + 1
    · rw [e, hnn]; have := h.went; simp; omega
    · rw [hnd m e]; have := h.most m (hm1 m e hm); omega
  · intro m hm
    by_cases e : m = s.last + 1
    · rw [e, hnn]; have := h.went; simp; omega
    · rw [hnd m e]; have := h.links m (hm1 m e hm); omega
  · intro m hm
    by_cases e : m = s.last + 1
    · rw [e, hnn]; simp
    · rw [hnd m e]; exact h.high m (hm1 m e hm)
  · intro m hm
    by_cases e : m = s.last + 1
    · rw [e, hnn]
      refine ⟨?_, by simp⟩
      simp only
      split
      · rename_i h3; have := hdt h3; omega
      · simp
    · rw [hnd m e]; exact h.data m (hm1 m e hm)
  · intro m hm
    by_cases e : m = s.last + 1
    · rw [e, hnn]
      simp only
      intro h3
      rw [if_pos h3]; exact hdt h3
    · rw [hnd m e]; exact h.target m (hm1 m e hm)
  · intro m hm
    by_cases e : m = s.last + 1
    · rw [e, hnn]
      simp only
      intro h3
      have h4 : ¬ kind = 3 := by omega
      first | exact if_neg h4 | exact ⟨if_neg h4, rfl⟩ | exact ⟨if_neg h4, trivial⟩
    · rw [hnd m e]; exact h.dir m (hm1 m e hm)
  · intro i hi
    obtain ⟨a1, a2⟩ := h.fds i hi
    exact ⟨hm2 _ a1, a2⟩
  · intro i hi
    show ((s.born kind data).nd (s.fds i).node).kind ≠ 3
    rw [hnd _ (hm3 _ (h.fds i hi).1)]
    exact h.fdk i hi
  · have := h.past; show 0 ≤ s.past ∧ s.past ≤ 5000 * (k + 1); omega
  · have := h.went; show 0 ≤ s.went ∧ s.went ≤ k + 1; omega

theorem Wz.make (h : Wz 0 k d s) {sp : M.Spot} (hq : Spotted s sp) (h0 : sp.node = 0) (kind : Int) (data : M.Bs) (hk : kind = 1 ∨ kind = 2 ∨ kind = 3) (hdt : kind = 3 → data.length ≤ 100) : ∃ d', Wz 0 (k + 2) d' (s.make sp kind data) := by
  have hb := h.born kind data hk hdt
  have hno := h.wf.free
  have hne : s.last + 1 ≠ sp.dir := fun e => by have := hq.has; rw [← e, hno] at this; cases this
  have hnn : (s.born kind data).nd (s.last + 1) = { kind := kind, data := if kind = 3 then data else [] } := by rw [born_nd, if_pos rfl]
  have hnd : (s.born kind data).nd sp.dir = s.nd sp.dir := by rw [born_nd, if_neg hne.symm]
  have hcn : Go.Proofs.YtpfaccpmgldkeaaGreatDoor.cnt (s.born kind data) (s.last + 1) = 0 := by
    have := cnt_set h.srt (s.last + 1) { kind := kind, data := if kind = 3 then data else [] } (s.last + 1)
    rw [nd_none hno, h.no_cnt hno] at this
    simp only [tgt_nil] at this
    exact this
  have hone : ∀ m, Sub (s.born kind data) (s.last + 1) m → m = s.last + 1 := fun m hs => by
    induction hs with
    | refl => rfl
    | @step m h1 h2 h3 _ ih =>
      rw [born_nd, if_neg h1] at ih h3
      have hm : s.has m = true := by rw [born_has] at h2; simpa [h1] using h2
      have := (h.up m (h.ne0 hm) hm h3).1
      rw [ih, hno] at this
      cases this
  rw [show k + 2 = k + 1 + 1 by omega]
  refine hb.add (by rw [born_has]; simp) (by have := h.last; omega) (by rw [born_has, hq.has]; simp) (by rw [hnd]; exact hq.kind) hne (by rw [hnd]; exact hq.att) (by rw [hnd]; exact hq.none h0) hq.name ?_ (fun _ => hcn) (fun _ hs => hne (hone _ hs).symm) (fun _ m _ hs => ?_)
  · intro _
    rw [hcn, hnn]; rfl
  · rw [hone m hs]
    have := hq.depth h
    omega
end
end Go.Proofs.YtpfaccpmgldkeaaGreatDoor
