/-
  deadlines: Due of the program.
-/
import Derived.Test.YtklndmnhhakmiaaDW6
namespace Go.Proofs.Ytklndmnhhakmiaa
open Go.RowKit Go.Mine Go.Mine.B
attribute [local go_sem] Oper.semAt_some
theorem due26 (A : Option Addr) (c : Nat) (b : List Bu) (B : Option Addr) (d : Nat) (l : List Tr) (n u k : Int) (w : World) (hS : Sl buC 5 w A c b) (hT : Sl trC 7 w B d l) (hI : buS b) (hJ : trS l) :
    Calls Try.prog 26 #[.slice A b.length c, .slice B l.length d, .int .i64 n, .int .i64 u, .int .i64 k] w (DueE (dueV 400 1 b l n u k) w) := by
  by_cases hz : chk 400 b l = 0
  · rcases Bool.eq_false_or_eq_true (timeB u && timeB k) with ht | ht
    · rcases Bool.eq_false_or_eq_true (has b n) with hn | hn
      · exact due26_good A c b B d l n u k w hS hT hI hJ hz ht hn
      · exact due26_none A c b B d l n u k w hS hT hI hJ hz ht hn
    · exact due26_time A c b B d l n u k w hS hT hI hJ hz ht
  · exact due26_bad A c b B d l n u k w hS hT hI hJ hz
end Go.Proofs.Ytklndmnhhakmiaa
